import Derived.ChangeKeysEq
import Derived.Deep.MidRow
import Derived.Laws.Pointers
import Derived.Laws.Small
import Derived.Laws.StructEq
import Derived.Test.YtnpidbjdilnhlaaGreatBn3
namespace Go.Proofs.YtnpidbjdilnhlaaGreat
open Go.RowKit
def TK.fits:TypeDesc→TK→Bool
 | .int k,.int k'=>decide (k=k')
 | .bool,.bool=>true
 | .string,.str=>true
 | .slice e,.slice e'=>decide (e=e')
 | .pointer e,.ptr e'=>decide (e=e')
 | .struct fs,.aP l=>decide (fs.toList.map (fun f=>(f.offset,f.type))=l)
 | .array n e,.arr n' e'=>decide (n=n') && decide (e=e')
 | .interface _,.iface=>true
 | .func _ _ _,.func=>true
 | .map k e,.map k' e'=>decide (k=k') && decide (e=e')
 | .float .f64,.e8=>true
 | .complex .f64,.eM=>true
 | _,_=>false
def AV.isVal:AV→Value→Bool
 | .int k n,.int k' n'=>decide (k=k') && decide (n=n')
 | .bool b,.bool b'=>b == b'
 | .str s,.string s'=>decide (s.size=0) && decide (s'.size=0)
 | .bX,.pointer none=>true
 | .af,.slice none 0 0=>true
 | .nilif,.nilIface=>true
 | .gk,.nilFunc=>true
 | .nf,.map none=>true
 | .e8 n,.float .f64 b=>decide (n=0) && decide (b=0)
 | .eM n m,.complex .f64 a b=>decide (n=0∧m=0) && decide (a=0∧b=0)
 | _,_=>false
def nI:List AV→List Value→Bool
 | [],[]=>true
 | x::xs,v::vs=>x.isVal v && nI xs vs
 | _,_=>false
def Pt:Value→Bool
 | .agg _=>true
 | _=>false
def En(P:Program)(t:TypeId)(i:TI):Bool:=
 match P.info? t,P.underlying t with
 | some j,some d=>decide (j.size=i.size) && (decide (j.bytes=i.bytes∧i.zero.length=i.size) && (TK.fits d i.k && (match j.zero with | some z=>nI i.zero z.cells.toList && (i.wide || !Pt z) | none=>false)))
 | _,_=>false
def cF(P:Program)(TT:TypeId→Option TI):Prop:=∀t i,TT t=some i→En P t i=true
def P8(P:Program)(TT:TypeId→Option TI)(n:Nat):Bool:=(List.range n).all fun t=>match TT t with | some i=>En P t i | none=>true
theorem XT{P:Program}{TT:TypeId→Option TI}{n:Nat}(h:P8 P TT n=true)(ho:∀t,n≤t→TT t=none):cF P TT:=by
 intro t i hi
 by_cases ht:t<n
 ·have:=List.all_eq_true.1 h t (List.mem_range.2 ht)
  rw[hi]at this
  exact this
 ·rw[ho t (Nat.le_of_not_lt ht)]at hi
  cases hi
theorem cq{P:Program}{TT:TypeId→Option TI}(ok:cF P TT){t:TypeId}{i:TI}(h:TT t=some i):
  ∃j d z,P.info? t=some j∧P.underlying t=some d∧j.size=i.size∧(j.bytes=i.bytes∧i.zero.length=i.size)∧TK.fits d i.k=true∧j.zero=some z∧nI i.zero z.cells.toList=true:=by
 have h1:=ok t i h
 unfold En at h1
 split at h1
 ·rename_i j d hj hd
  simp only[Bool.and_eq_true,decide_eq_true_eq]at h1
  obtain⟨h2,h3,h4,h5⟩:=h1
  split at h5
  ·rename_i z hz
   simp only[Bool.and_eq_true]at h5
   exact⟨j,d,z,hj,hd,h2,h3,h4,hz,h5.1⟩
  ·cases h5
 ·cases h1
theorem Od{P:Program}{TT:TypeId→Option TI}(ok:cF P TT){t:TypeId}{i:TI}(h:TT t=some i)(hw:i.wide=false):∃j z,P.info? t=some j∧j.zero=some z∧Pt z=false:=by
 have h1:=ok t i h
 unfold En at h1
 split at h1
 ·rename_i j d hj hd
  simp only[Bool.and_eq_true,decide_eq_true_eq]at h1
  obtain⟨h2,h3,h4,h5⟩:=h1
  split at h5
  ·rename_i z hz
   simp only[Bool.and_eq_true,Bool.or_eq_true,hw,Bool.false_eq_true,false_or,Bool.not_eq_true']at h5
   exact⟨j,z,hj,hz,h5.2⟩
  ·cases h5
 ·cases h1
theorem fits_int{d:TypeDesc}{k:IntKind}(h:TK.fits d (.int k)=true):d=.int k:=by cases d <;> simp_all [TK.fits]
theorem fits_bool{d:TypeDesc}(h:TK.fits d .bool=true):d=.bool:=by cases d <;> simp_all [TK.fits]
theorem iu{d:TypeDesc}{e:TypeId}(h:TK.fits d (.slice e)=true):d=.slice e:=by cases d <;> simp_all [TK.fits]
theorem WR{d:TypeDesc}{k e:TypeId}(h:TK.fits d (.map k e)=true):d=.map k e:=by cases d <;> simp_all [TK.fits]
theorem C3{d:TypeDesc}{e:TypeId}(h:TK.fits d (.ptr e)=true):d=.pointer e:=by cases d <;> simp_all [TK.fits]
theorem Gb{d:TypeDesc}{l:List (Nat×TypeId)}(h:TK.fits d (.aP l)=true):∃fs,d=.struct fs∧fs.toList.map (fun f=>(f.offset,f.type))=l:=by cases d <;> simp_all [TK.fits]
theorem NP{d:TypeDesc}{n:Nat}{e:TypeId}(h:TK.fits d (.arr n e)=true):d=.array n e:=by cases d <;> simp_all [TK.fits]
theorem LH{d:TypeDesc}(h:TK.fits d .iface=true):∃m,d=.interface m:=by cases d <;> simp_all [TK.fits]
theorem My{d:TypeDesc}(h:TK.fits d .func=true):∃a b c,d=.func a b c:=by cases d <;> simp_all [TK.fits]
theorem WT{d:TypeDesc}(h:TK.fits d .e8=true):d=.float .f64:=by
 unfold TK.fits at h
 split at h <;> simp_all
theorem Mx{d:TypeDesc}{i:TI}(h:TK.fits d i.k=true):d.isRow=i.wide:=by
 unfold TI.wide
 cases hk:i.k <;> rw[hk]at h <;> cases d <;> first | rfl | simp[TK.fits]at h
theorem UL{F:Nat→Prop}{w:World}{x:AV}{v:Value}(h:x.isVal v=true):ar F w x v∧x.leaf=true:=by
 unfold AV.isVal at h
 split at h
 ·simp only[Bool.and_eq_true,decide_eq_true_eq]at h;obtain⟨rfl,rfl⟩:=h;exact⟨.int _ _,rfl⟩
 ·simp only[beq_iff_eq]at h;subst h;exact⟨.bool _,rfl⟩
 ·rename_i s s'
  simp only[Bool.and_eq_true,decide_eq_true_eq]at h
  obtain⟨h1,h2⟩:=h
  have:s=s':=by
   apply ByteArray.ext
   apply Array.ext
   ·exact h1.trans h2.symm
   ·intro i hi _;have:i<s.size:=hi;omega
  subst this
  exact⟨.str _,rfl⟩
 ·exact⟨.bX,rfl⟩
 ·exact⟨.af,rfl⟩
 ·exact⟨.nilif,rfl⟩
 ·exact⟨.gk,rfl⟩
 ·exact⟨.nf,rfl⟩
 ·simp only[Bool.and_eq_true,decide_eq_true_eq]at h;obtain⟨rfl,rfl⟩:=h;exact⟨.e8 _ _ G1,rfl⟩
 ·simp only[Bool.and_eq_true,decide_eq_true_eq]at h;obtain⟨⟨rfl,rfl⟩,rfl,rfl⟩:=h;exact⟨.eM _ _ _ _ G1 G1,rfl⟩
 ·cases h
theorem LV{F:Nat→Prop}{w:World}:∀{xs:List AV} {vs:List Value},nI xs vs=true→xs.length=vs.length∧∀i x,xs[i]?=some x→ar F w x (vs.getD i undef)∧x.leaf=true
 | [],[],_=>⟨rfl,fun i x h=>by simp at h⟩
 | x::xs,v::vs,h=>by
  simp only[nI,Bool.and_eq_true]at h
  obtain⟨h1,h2⟩:=LV (F:=F) (w:=w) h.2
  refine⟨by simp[h1],fun i y hi =>?_⟩
  cases i with
  | zero=>simp at hi;subst hi;simpa using UL h.1
  | succ i=>simpa using h2 i y (by simpa using hi)
 | [],_::_,h=>by simp[nI]at h
 | _::_,[],h=>by simp[nI]at h
theorem aQ.refl(F:Nat→Prop)(w:World):aQ F w F w:=⟨rfl,rfl,rfl,Nat.le_refl _,fun _ h=>h,fun _ _=>rfl,fun _ c _ fz h=>⟨c,fz,h,rfl⟩,Nat.le_refl _⟩
theorem aQ.trans{F F' lR:Nat→Prop}{w w' kh:World}(h:aQ F w F' w')(k:aQ F' w' lR kh):aQ F w lR kh:=
 ⟨k.os.trans h.os,k.tape.trans h.tape,k.output.trans h.output,Nat.le_trans h.size k.size,fun b hb=>k.sub b (h.sub b hb),fun b hb=>(k.fix b (h.sub b hb)).trans (h.fix b hb),
  fun b c T fz hb=>by
   obtain⟨c',pA,h1,h2⟩:=h.rows b c T fz hb
   obtain⟨c'',aco,h3,h4⟩:=k.rows b c' T pA h1
   exact⟨c'',aco,h3,h4.trans h2⟩,Nat.le_trans h.drawn k.drawn⟩
theorem Hb{w w':World}{b:Nat}(h:w'.heap[b]?=w.heap[b]?)(o:Nat):w'.cell? ⟨b,o,none⟩=w.cell? ⟨b,o,none⟩:=World.cell?_of_block (w:=w) (a:=⟨b,o,none⟩) h
theorem sI.fix{w w':World}{b o:Nat}{cs:List Value}(h:sI w b o cs)(hb:w'.heap[b]?=w.heap[b]?):sI w' b o cs:=fun j u hu=>(Hb hb _).trans (h j u hu)
theorem lW.mono{F F':Nat→Prop}{w w':World}(ak:aQ F w F' w'){b:Nat}(h:lW w b):lW w' b:=by
 obtain⟨c,T,fz,h⟩:=h
 obtain⟨c',pA,h',_⟩:=ak.rows b c T fz h
 exact⟨c',T,pA,h'⟩
theorem FC.mono{F F':Nat→Prop}{w w':World}(ak:aQ F w F' w'){b:Nat}(h:FC F w b):FC F' w' b:=⟨ak.sub b h.1,h.2.mono ak⟩
theorem jv.mono{F F':Nat→Prop}{w w':World}(ak:aQ F w F' w'):∀(s:Sh) (cs:List Value) (d:s.T),jv F w s cs d→jv F' w' s cs d:=by
 intro s
 induction s with
 | int k=>exact fun _ _ h=>h
 | bool=>exact fun _ _ h=>h
 | str=>exact fun _ _ h=>h
 | nil=>exact fun _ _ h=>h
 | slice e ih =>
  rintro cs l ⟨a,c,h1,h2,h3,h0,h4⟩
  refine⟨a,c,h1,h2,h3,h0,fun aI =>?_⟩
  obtain⟨b,o,rfl,hF,hi⟩:=h4 aI
  refine⟨b,o,rfl,hF.mono ak,fun i h =>?_⟩
  obtain⟨cs',q1,q2,q3⟩:=hi i h
  exact⟨cs',q1,q2.fix (ak.fix b hF.1),ih _ _ q3⟩
 | field f r oh ij =>
  rintro cs d ⟨c1,c2,h1,h2,h3,h4⟩
  exact⟨c1,c2,h1,h2,oh _ _ h3,ij _ _ h4⟩
theorem Bm.mono{F F':Nat→Prop}{w w':World}(ak:aQ F w F' w'){b off len e:Nat}{a:Addr}{cap:Nat}(h:Bm w b off len e a cap):Bm w' b off len e a cap:=by
 obtain⟨c,T,fz,h1,h2,h3,h4⟩:=h
 obtain⟨c',pA,h5,h6⟩:=ak.rows b c T fz h1
 exact⟨c',T,pA,h5,h2,h3,by rw[h6];exact h4⟩
theorem ar.mono{F F':Nat→Prop}{w w':World}(ak:aQ F w F' w'){x:AV}{v:Value}(h:ar F w x v):ar F' w' x v:=by
 induction h with
 | int k n=>exact .int k n
 | bool b=>exact .bool b
 | str s=>exact .str s
 | ah e l v h=>exact .ah e l v (jv.mono ak _ _ _ h)
 | iV a=>exact .iV a
 | ft a c h=>exact .ft a c h
 | af=>exact .af
 | ae b off len e a cap h=>exact .ae b off len e a cap (h.mono ak)
 | bX=>exact .bX
 | ptr b off h=>exact .ptr b off (h.mono ak)
 | lA b=>exact .lA b
 | lI b=>exact .lI b
 | eQ cs b o f hF h1 hl h ih=>exact .eQ cs b o f (hF.mono ak) (fun i x hx=>(Hb (ak.fix b hF.1) _).trans (h1 i x hx)) hl ih
 | agg cs vs hs hl h ih=>exact .agg cs vs hs hl ih
 | tup cs vs hs h ih=>exact .tup cs vs hs ih
 | iface t a v h ih=>exact .iface t a v ih
 | nilif=>exact .nilif
 | fn f c1 c2 v1 v2 dX fq h1 h2 Bz By=>exact .fn f c1 c2 v1 v2 dX fq Bz By
 | gk=>exact .gk
 | nf=>exact .nf
 | e8 n b h=>exact .e8 n b h
 | eM n m a b h1 h2=>exact .eM n m a b h1 h2
 | any v=>exact .any v
 | via x v hl h ih=>exact .via x v hl ih
theorem ar.bc{F:Nat→Prop}{w:World}{x:AV}{v:Value}(h:ar F w x v):ar F w (Go.Proofs.YtnpidbjdilnhlaaGreat.bc x) v:=by
 cases h with
 | via x v hl h=>exact h
 | int k n=>exact .int k n
 | bool b=>exact .bool b
 | str s=>exact .str s
 | ah e l v h=>exact .ah e l v h
 | iV a=>exact .iV a
 | ft a c h=>exact .ft a c h
 | af=>exact .af
 | ae b off len e a cap h=>exact .ae b off len e a cap h
 | bX=>exact .bX
 | ptr b off h=>exact .ptr b off h
 | lA b=>exact .lA b
 | lI b=>exact .lI b
 | eQ cs b o f hF h1 hl h=>exact .eQ cs b o f hF h1 hl h
 | agg cs vs hs hl h=>exact .agg cs vs hs hl h
 | tup cs vs hs h=>exact .tup cs vs hs h
 | iface t a v h=>exact .iface t a v h
 | nilif=>exact .nilif
 | fn f c1 c2 v1 v2 dX fq h1 h2=>exact .fn f c1 c2 v1 v2 dX fq h1 h2
 | gk=>exact .gk
 | nf=>exact .nf
 | e8 n b h=>exact .e8 n b h
 | eM n m a b h1 h2=>exact .eM n m a b h1 h2
 | any v=>exact .any v
theorem gz.mono{F F':Nat→Prop}{w w':World}(ak:aQ F w F' w'){xs:List AV}{vs:Array Value}(h:gz F w xs vs):gz F' w' xs vs:=⟨h.1,fun i x hx=>(h.2 i x hx).mono ak⟩
theorem ar.one{F:Nat→Prop}{w:World}{x:AV}{v:Value}(h:ar F w x v)(hl:x.leaf=true):v.oneCell'=true:=by
 induction h with
 | ah e l v h =>
  obtain⟨a,c,h1,_⟩:=h
  obtain rfl:=List.singleton_inj.1 h1
  rfl
 | agg=>cases hl
 | tup=>cases hl
 | any=>cases hl
 | via x v h1 h ih=>exact ih h1
 | _=>rfl
theorem ar.Bf{F:Nat→Prop}{w:World}{e:Sh}{l:List e.T}{v:Value}(h:ar F w (.ah e l) v):∃a c,v=.slice a l.length c∧l.length≤c∧c≤maxLen∧
   (l≠[]→∃b o,a=some ⟨b,o,none⟩∧FC F w b∧∀i,(h:i<l.length)→∃cs',cs'.length=e.size∧sI w b (o+i*e.size) cs'∧jv F w e cs' l[i]):=by
 cases h with
 | ah e l v h =>
  obtain⟨a,c,h1,h2,h3,_,h4⟩:=h
  exact⟨a,c,List.singleton_inj.1 h1,h2,h3,h4⟩
theorem ar.acp{F:Nat→Prop}{w:World}{e:Sh}{l:List e.T}{v:Value}(h:ar F w (.ah e l) v){a:Option Addr}{n c:Nat}(hv:v=.slice a n c):a=none→c=0:=by
 cases h with
 | ah e l v h =>
  obtain⟨a',c',h1,h2,h3,h4,_⟩:=h
  have:=List.singleton_inj.1 h1
  rw[hv]at this
  cases this
  exact h4
theorem jv.cells{F:Nat→Prop}{w:World}:∀(s:Sh) (cs:List Value) (d:s.T),jv F w s cs d→(s.cells d).length=cs.length∧∀i x,(s.cells d)[i]?=some x→x.leaf=true∧ar F w x (cs.getD i undef):=by
 intro s
 induction s with
 | int k=>rintro cs d h;obtain rfl:cs=[.int k d]:=h;exact⟨rfl,fun i x hx=>by cases i <;> simp[Sh.cells]at hx;subst hx;exact⟨rfl,.int _ _⟩⟩
 | bool=>rintro cs d h;obtain rfl:cs=[.bool d]:=h;exact⟨rfl,fun i x hx=>by cases i <;> simp[Sh.cells]at hx;subst hx;exact⟨rfl,.bool _⟩⟩
 | str=>rintro cs d h;obtain rfl:cs=[.string d]:=h;exact⟨rfl,fun i x hx=>by cases i <;> simp[Sh.cells]at hx;subst hx;exact⟨rfl,.str _⟩⟩
 | nil=>rintro cs d h;obtain rfl:cs=[]:=h;exact⟨rfl,fun i x hx=>by simp[Sh.cells]at hx⟩
 | slice e ih =>
  rintro cs l h
  have h':=h
  obtain⟨a,c,rfl,_⟩:=h'
  exact⟨rfl,fun i x hx=>by cases i <;> simp[Sh.cells]at hx;subst hx;exact⟨rfl,.ah e l _ h⟩⟩
 | field f r oh ij =>
  rintro cs d ⟨c1,c2,rfl,h2,h3,h4⟩
  obtain⟨a1,a2⟩:=oh _ _ h3
  obtain⟨b1,b2⟩:=ij _ _ h4
  refine⟨by simp[Sh.cells,a1,b1],fun i x hx =>?_⟩
  simp only[Sh.cells]at hx
  by_cases hi:i<(f.cells d.1).length
  ·rw[List.getElem?_append_left hi]at hx
   have:=a2 i x hx
   rw[List.getD_eq_getElem?_getD,List.getElem?_append_left (by omega),← List.getD_eq_getElem?_getD]
   exact this
  ·rw[List.getElem?_append_right (by omega)]at hx
   have:=b2 _ x hx
   rw[List.getD_eq_getElem?_getD,List.getElem?_append_right (by omega),← List.getD_eq_getElem?_getD,← a1]
   exact this
theorem Sh.rP(s:Sh)(d:s.T):(s.cells d).length=s.size:=by
 induction s with
 | field f r oh ij=>simp[Sh.cells,Sh.size,oh,ij]
 | _=>rfl
def At(F:Nat→Prop)(w:World)(b o:Nat)(cs:List AV):Prop:=∀(i:Nat) (x:AV),cs[i]?=some x→x.leaf=true∧∃v,w.cell? ⟨b,o+i,none⟩=some v∧ar F w x v
theorem CC{x:AV}{o:Obj}(h:ud x=some o):x.leaf=false:=by cases x <;> first | rfl | simp[ud]at h
theorem Lz{x:AV}{c:Array Value}{T:TypeId}{fz:Nat×Nat}(h:ud x=some (.cells c T fz)):False:=by cases x <;> simp[ud]at h
theorem Holds.cells{F:Nat→Prop}{w:World}{b:Nat}{cs:List AV}(h:Holds F w b cs)(hc:lW w b):¬F b∧Ap F w b cs:=by
 obtain⟨hF,h | ⟨x,o,_,h,hx⟩ | ⟨L,t,_,h,_⟩⟩:=h
 ·exact⟨hF,h⟩
 ·obtain⟨c,T,fz,h'⟩:=hc
  rw[h]at h';cases h'
  cases Lz hx
 ·obtain⟨c,T,fz,h'⟩:=hc
  rw[h]at h';cases h'
theorem Holds.It{F:Nat→Prop}{w:World}{b k:Nat}{cs:List AV}{x:AV}(h:Holds F w b cs)(hk:cs[k]?=some x)(hx:x.leaf=true):¬F b∧Ap F w b cs:=by
 obtain⟨hF,h | ⟨y,o,rfl,h,hy⟩ | ⟨L,t,rfl,h,_⟩⟩:=h
 ·exact⟨hF,h⟩
 ·cases k with
  | zero=>simp at hk;subst hk;rw[CC hy]at hx;cases hx
  | succ k=>simp at hk
 ·cases k with
  | zero=>simp at hk;subst hk;cases hx
  | succ k=>simp at hk
theorem ar.xd{F:Nat→Prop}{w:World}{b o:Nat}{v:Value}(h:ar F w (.ptr b o) v):lW w b:=by cases h;assumption
theorem Holds.at_{F:Nat→Prop}{w:World}{b:Nat}{cs:List AV}(h0:Holds F w b cs)(hc:lW w b):At F w b 0 cs:=by
 obtain⟨_,c,T,h1,h2,h3⟩:=h0.cells hc
 intro i x hx
 have hi:i<cs.length:=(List.getElem?_eq_some_iff.1 hx).1
 obtain⟨h4,h5⟩:=h3 i x hx
 refine⟨h4,c.getD i undef,?_,h5⟩
 rw[Nat.zero_add,Dr h1]
 have:i<c.size:=by omega
 simp[Array.getD,this]
theorem At.drop{F:Nat→Prop}{w:World}{b o:Nat}{cs:List AV}(h:At F w b o cs)(k:Nat):At F w b (o+k) (cs.drop k):=by
 intro i x hx
 rw[List.getElem?_drop]at hx
 obtain⟨h1,v,h2,h3⟩:=h (k+i) x hx
 exact⟨h1,v,by rw[← h2,Nat.add_assoc],h3⟩
theorem At.Oz{F:Nat→Prop}{w:World}{b o:Nat}(s:Sh){cs:List Value}{d:s.T}(h:sI w b o cs)(hr:jv F w s cs d):At F w b o (s.cells d):=by
 obtain⟨h1,h2⟩:=jv.cells s cs d hr
 intro i x hx
 obtain⟨h3,h4⟩:=h2 i x hx
 have hi:i<cs.length:=by rw[← h1];exact (List.getElem?_eq_some_iff.1 hx).1
 exact⟨h3,_,h i _ (by rw[List.getElem?_eq_getElem hi]),by simpa [List.getD,hi]using h4⟩
theorem At.eQ{F:Nat→Prop}{w:World}{b o:Nat}{cs:List AV}(h:At F w b o cs)(hF:FC F w b):ar F w (.eQ cs) (.pointer (some ⟨b,o,none⟩)):=by
 refine .eQ cs b o (fun i=>(w.cell? ⟨b,o+i,none⟩).getD undef) hF (fun i x hx =>?_) (fun i x hx=>(h i x hx).1) (fun i x hx =>?_)
 ·obtain⟨_,v,h2,_⟩:=h i x hx;rw[h2];rfl
 ·obtain⟨_,v,h2,h3⟩:=h i x hx;rw[h2];exact h3
theorem ar.vv{F:Nat→Prop}{w:World}{cs:List AV}{v:Value}(h:ar F w (.eQ cs) v):∃b o,v=.pointer (some ⟨b,o,none⟩)∧FC F w b∧At F w b o cs:=by
 cases h with
 | eQ cs b o f hF h1 hl h=>exact⟨b,o,rfl,hF,fun i x hx=>⟨hl i x hx,f i,h1 i x hx,h i x hx⟩⟩
section
variable {P:Program} {TT:TypeId→Option TI} {F:Nat→Prop} {w:World}
theorem Gs{t:TypeId}{d:TypeDesc}(h:P.underlying t=some d)(w:World):(isAgg t).run P w=.ok d.isRow w:=by
 unfold isAgg
 rw[Sem.run_bind,run_underlying h w]
 cases d <;> rfl
theorem run_sizeOf{t:TypeId}{j:TypeInfo}(h:P.info? t=some j)(w:World):(sizeOf t).run P w=.ok j.size w:=by simp[sizeOf,typeInfo,h]
theorem Co(ok:cF P TT){t:TypeId}{i:TI}(ht:TT t=some i){b o:Nat}{cs:List AV}(h:At F w b o cs){k:Nat}{v:AV}(hv:cY i cs k=some v):
  ∃v',(loadVar t ⟨b,o+k,none⟩).run P w=.ok v' w∧ar F w v v':=by
 obtain⟨j,d,z,hj,hd,hs,hb,hf,hz,fQ⟩:=cq ok ht
 have hw:=Mx hf
 unfold cY at hv
 split at hv
 ·rename_i vR
  split at hv
  ·rename_i hle
   have hle:=Nat.le_of_ble_eq_true hle
   simp only[Option.some.injEq]at hv
   subst hv
   have hc:∀m,m<i.size→∃x,cs[k+m]?=some x∧x.leaf=true∧∃v,w.cell? ⟨b,o+k+m,none⟩=some v∧ar F w x v:=by
    intro m hm
    have hk:k+m<cs.length:=by omega
    obtain⟨h1,v,h2,h3⟩:=h (k+m) cs[k+m] (by simp[hk])
    exact⟨_,by simp[hk],h1,v,by rw[← h2,Nat.add_assoc],h3⟩
   have hr:w.rangeAt b (o+k) ((List.range i.size).map fun m=>(w.cell? ⟨b,o+k+m,none⟩).getD undef):=by
    intro m v hm
    have hmi:m<i.size:=by have:=(List.getElem?_eq_some_iff.1 hm).1;simpa using this
    obtain⟨x,_,_,v',h2,_⟩:=hc m hmi
    simp[hmi]at hm
    rw[h2]at hm ⊢
    simpa using hm
   refine⟨_,run_loadVar_mid (P:=P) w b (o+k) t _ d hr hd (by rw[hw,vR]) (by simp[hj,hs]),?_⟩
   refine .agg _ _ (by simp;omega) (fun m x hx =>?_) (fun m x hx =>?_)
   ·rw[List.getElem?_take]at hx
    split at hx
    ·rename_i hm
     obtain⟨x',h1,h2,_⟩:=hc m hm
     rw[List.getElem?_drop,h1]at hx
     cases hx
     exact h2
    ·cases hx
   ·rw[List.getElem?_take]at hx
    split at hx
    ·rename_i hm
     obtain⟨x',h1,_,v,h2,h3⟩:=hc m hm
     rw[List.getElem?_drop,h1]at hx
     cases hx
     simpa [hm,h2]using h3
    ·cases hx
  ·cases hv
 ·rename_i vR
  obtain⟨_,v',h2,h3⟩:=h k v hv
  refine⟨v',?_,h3⟩
  unfold loadVar
  rw[Sem.run_bind,Gs hd]
  simp[hw,vR,h2]
def Bl(P:Program)(op:Op)(ρ:Operand→AV)(σ:Hp)(v:AV):Prop:=
 ∀(η:Operand→Value) (F:Nat→Prop) (w:World) (o:Oper),o.op=op→(∀x∈op.operands.toList,ar F w (ρ x) (η x))→aM F w σ→∃v',(execOp η o).run P w=.ok (.value v') w∧ar F w v v'
def dV(P:Program)(op:Op)(ρ:Operand→AV)(v:AV):Prop:=
 ∀(η:Operand→Value) (F:Nat→Prop) (w:World) (o:Oper),o.op=op→(∀x∈op.operands.toList,ar F w (ρ x) (η x))→∃v',(∀w',(execOp η o).run P w'=.ok (.value v') w')∧ar F w v v'
theorem dV.bc{P:Program}{op:Op}{ρ:Operand→AV}{v:AV}(h:dV P op (fun x=>Go.Proofs.YtnpidbjdilnhlaaGreat.bc (ρ x)) v):dV P op ρ v:=fun η F w o ho hx=>h η F w o ho (fun x hm=>(hx x hm).bc)
theorem yW{P:Program}{op:Op}{ρ:Operand→AV}{K:AV→Prop}(h:∃v,K v∧dV P op (fun x=>Go.Proofs.YtnpidbjdilnhlaaGreat.bc (ρ x)) v):∃v,K v∧dV P op ρ v:=by
 obtain⟨v,h1,h2⟩:=h
 exact⟨v,h1,h2.bc⟩
theorem dV.abH{P:Program}{op:Op}{ρ:Operand→AV}{v:AV}(h:dV P op ρ v)(σ:Hp):Bl P op ρ σ v:=fun η F w o ho hx _=>by
 obtain⟨v',h1,h2⟩:=h η F w o ho hx
 exact⟨v',h1 w,h2⟩
theorem aM.at_{F:Nat→Prop}{w:World}{σ:Hp}(h:aM F w σ){j b:Nat}{cs:List AV}(hj:σ[j]?=some (b,cs))(hc:lW w b):At F w b 0 cs:=(h.holds (b,cs) (List.mem_of_getElem? hj)).at_ hc
theorem Ua{x:Operand}{ρ:Operand→AV}:dV P (.move x) ρ (ρ x):=fun η F w o ho hx=>⟨η x,fun _=>by simp[execOp,ho],hx x (by simp[Op.operands])⟩
theorem RZ{x:Operand}{ρ:Operand→AV}:dV P (.assign x) ρ (ρ x):=fun η F w o ho hx=>⟨η x,fun _=>by simp[execOp,ho],hx x (by simp[Op.operands])⟩
theorem ar.oX{b:Bool}{v:Value}(h:ar F w (.bool b) v):v=.bool b:=by cases h;rfl
theorem ar.fk{k:IntKind}{n:Int}{v:Value}(h:ar F w (.int k n) v):v=.int k n:=by cases h;rfl
theorem ar.EE{n:Int}{v:Value}(h:ar F w (.e8 n) v):∃b,v=.float .f64 b∧gM b n:=by cases h with | e8 n b h=>exact⟨b,rfl,h⟩
theorem ar.EJ{n m:Int}{v:Value}(h:ar F w (.eM n m) v):∃a b,v=.complex .f64 a b∧gM a n∧gM b m:=by cases h with | eM n m a b h1 h2=>exact⟨a,b,rfl,h1,h2⟩
theorem ar.AR{s:ByteArray}{v:Value}(h:ar F w (.str s) v):v=.string s:=by cases h;rfl
theorem ar.vX{b o:Nat}{v:Value}(h:ar F w (.ptr b o) v):v=.pointer (some ⟨b,o,none⟩):=by cases h;rfl
theorem ar.jO{b off len e:Nat}{v:Value}(h:ar F w (.ae b off len e) v):∃a cap,v=.slice (some a) len cap∧Bm w b off len e a cap:=by cases h with | ae _ _ _ _ a cap h=>exact⟨a,cap,rfl,h⟩
theorem ar.sE{cs:List AV}{v:Value}(h:ar F w (.agg cs) v):∃vs,v=.agg vs∧cs.length=vs.size∧(∀(i:Nat) (x:AV),cs[i]?=some x→x.leaf=true∧ar F w x (vs.getD i undef)):=by
 cases h with | agg cs vs hs hl h=>exact⟨vs,rfl,hs,fun i x hx=>⟨hl i x hx,h i x hx⟩⟩
theorem T9{c a b:Operand}{ρ:Operand→AV}{x:Bool}(h:ρ c=.bool x):dV P (.pick c a b) ρ (if x then ρ a else ρ b):=by
 intro η F w o ho hx
 have hc:=hx c (by simp[Op.operands])
 have ha:=hx a (by simp[Op.operands])
 have hb:=hx b (by simp[Op.operands])
 rw[h]at hc
 have hc:=hc.oX
 cases x
 ·exact⟨η b,fun _=>by simp[execOp,ho,hc,asBool],hb⟩
 ·exact⟨η a,fun _=>by simp[execOp,ho,hc,asBool],ha⟩
theorem S8(ok:cF P TT){t:TypeId}{a:Operand}{ρ:Operand→AV}{σ:Hp}{K:AV→Prop}{i:TI}(ht:TT t=some i)(h:nO i (ρ a) σ K):∃v,K v∧Bl P (.load t a) ρ σ v:=by
 unfold nO at h
 split at h
 ·rename_i cs jf
  split at h
  ·rename_i v hv
   refine⟨v,h,fun η F w o ho hx _ =>?_⟩
   have ha:=hx a (by simp[Op.operands])
   rw[jf]at ha
   obtain⟨b,o',e,hF,cW⟩:=ha.vv
   obtain⟨v',h1,h2⟩:=Co ok ht cW hv
   rw[Nat.add_zero]at h1
   exact⟨v',by simp[execOp,ho,e,Instr.loadAt,Instr.sureAddr,h1],h2⟩
  ·exact h.elim
 ·rename_i b o' jf
  obtain⟨j,cs,v,h1,h2,go⟩:=h
  refine⟨v,go,fun η F w o ho hx ay =>?_⟩
  have ha:=hx a (by simp[Op.operands])
  rw[jf]at ha
  obtain⟨v',h3,h4⟩:=Co ok ht (ay.at_ h1 ha.xd) h2
  rw[Nat.zero_add]at h3
  exact⟨v',by simp[execOp,ho,ha.vX,Instr.loadAt,Instr.sureAddr,h3],h4⟩
 ·exact h.elim
end
section
variable {P:Program} {TT:TypeId→Option TI}
theorem D1{op:Op}{ρ:Operand→AV}{b o:Nat}{u:Value}(h0:u=.pointer (some ⟨b,o,none⟩))(h:∀(η:Operand→Value) (F:Nat→Prop) (w:World) (o:Oper),o.op=op→(∀x∈op.operands.toList,ar F w (ρ x) (η x))→lW w b∧∀w',(execOp η o).run P w'=.ok (.value u) w'):dV P op ρ (.ptr b o):=fun η F w o ho hx=>by
 obtain⟨h1,h2⟩:=h η F w o ho hx
 exact⟨u,h2,h0▸.ptr _ _ h1⟩
theorem kV{op:Op}{ρ:Operand→AV}{v:AV}{u:Value}(hu:∀F w,ar F w v u)(h:∀(η:Operand→Value) (F:Nat→Prop) (w:World) (o:Oper),o.op=op→(∀x∈op.operands.toList,ar F w (ρ x) (η x))→∀w',(execOp η o).run P w'=.ok (.value u) w'):dV P op ρ v:=
 fun η F w o ho hx=>⟨u,h η F w o ho hx,hu F w⟩
theorem oP{b:Bool}{K:AV→Prop}(h:mh b K):K (.bool b):=by cases b <;> exact h
theorem Tc{op:BinOp}{k:IntKind}{a b:Int}{K:AV→Prop}(jY:op≠.shl∧op≠.shr)(h:Ev op k a b K):
  ∃v u,K v∧(∀F w,ar F w v u)∧∀(t:TypeId) (w:World),(binOp op t (.int k a) (.int k b)).run P w=.ok u w:=by
 cases op <;> simp only[Ev]at h
 case add=>exact⟨_,_,h,fun _ _=>.int _ _,fun t w=>by simp[binOp,Op.intArith]⟩
 case sub=>exact⟨_,_,h,fun _ _=>.int _ _,fun t w=>by simp[binOp,Op.intArith]⟩
 case mul=>exact⟨_,_,h,fun _ _=>.int _ _,fun t w=>by simp[binOp,Op.intArith]⟩
 case quo=>exact⟨_,_,h.go,fun _ _=>.int _ _,fun t w=>by simp[binOp,Op.intDiv,h.fact]⟩
 case rem=>exact⟨_,_,h.go,fun _ _=>.int _ _,fun t w=>by simp[binOp,Op.intDiv,h.fact]⟩
 case and=>exact⟨_,_,h,fun _ _=>.int _ _,fun t w=>by rw[show binOp .and t (.int k a) (.int k b)=Op.intBits .and k a b by simp[binOp]];rfl⟩
 case or=>exact⟨_,_,h,fun _ _=>.int _ _,fun t w=>by rw[show binOp .or t (.int k a) (.int k b)=Op.intBits .or k a b by simp[binOp]];rfl⟩
 case xor=>exact⟨_,_,h,fun _ _=>.int _ _,fun t w=>by rw[show binOp .xor t (.int k a) (.int k b)=Op.intBits .xor k a b by simp[binOp]];rfl⟩
 case andNot=>exact⟨_,_,h,fun _ _=>.int _ _,fun t w=>by rw[show binOp .andNot t (.int k a) (.int k b)=Op.intBits .andNot k a b by simp[binOp]];rfl⟩
 case eql=>exact⟨_,_,oP h,fun _ _=>.bool _,fun t w=>by simp[binOp,Op.intCmp];exact Bool.beq_eq_decide_eq _ _⟩
 case neq=>exact⟨_,_,oP h,fun _ _=>.bool _,fun t w=>by simp[binOp,Op.intCmp,bne,Bool.beq_eq_decide_eq]⟩
 case lss=>exact⟨_,_,oP h,fun _ _=>.bool _,fun t w=>by simp[binOp,Op.intCmp]⟩
 case leq=>exact⟨_,_,oP h,fun _ _=>.bool _,fun t w=>by simp[binOp,Op.intCmp]⟩
 case gtr=>exact⟨_,_,oP h,fun _ _=>.bool _,fun t w=>by simp[binOp,Op.intCmp]⟩
 case geq=>exact⟨_,_,oP h,fun _ _=>.bool _,fun t w=>by simp[binOp,Op.intCmp]⟩
theorem KI{op:BinOp}{k yk:IntKind}{a b:Int}{K:AV→Prop}(h:Dy op k a b K):
  ∃v u,K v∧(∀F w,ar F w v u)∧∀(t:TypeId) (w:World),(binOp op t (.int k a) (.int yk b)).run P w=.ok u w:=by
 cases op <;> simp only[Dy]at h
 case shl=>exact⟨_,_,h.go,fun _ _=>.int _ _,fun t w=>by have:=h.fact;simp[binOp,Op.shift,show ¬b<0 by omega]⟩
 case shr=>exact⟨_,_,h.go,fun _ _=>.int _ _,fun t w=>by have:=h.fact;simp[binOp,Op.shift,show ¬b<0 by omega]⟩
theorem tb{op:BinOp}{t:TypeId}{x y:Operand}{a b:Value}(h:(∀u,a≠.agg u)∧(a≠.nilIface∨b≠.nilIface))(w:World):(eqGuard op t x y a b).run P w=.ok () w:=by
 obtain⟨h1,h2⟩:=h
 cases op <;> first
  | rfl
  | (cases a <;> first
    | rfl
    | exact absurd rfl (h1 _)
    | (cases b <;> first
      | rfl
      | exact absurd rfl (h2.resolve_left (by simp))))
theorem K5{op:BinOp}{t:TypeId}{x:Operand}{v:Value}{a b:Value}(w:World)(h:∀u,a≠.agg u):(eqGuard op t x (.const v) a b).run P w=.ok () w:=by
 by_cases hn:a=.nilIface∧b=.nilIface
 ·obtain⟨rfl,rfl⟩:=hn
  cases op <;> first | rfl | simp[eqGuard]
 ·exact tb ⟨h,by by_cases ha:a=.nilIface;exact .inr fun hb=>hn ⟨ha,hb⟩;exact .inl ha⟩ w
theorem pF{η:Operand→Value}{o:Oper}{op:BinOp}{t yt:TypeId}{x y:Operand}{w:World}{u:Value}(ho:o.op=.binOp op t x y yt)(hg:(eqGuard op t x y (η x) (η y)).run P w=.ok () w)(h:(binOp op t (η x) (η y)).run P w=.ok u w):
  (execOp η o).run P w=.ok (.value u) w:=by
 simp[execOp,ho,hg,h]
theorem oJ{t:TypeId}(a b:Value)(w:World):
  (Op.equal t a b).run P w=(Op.equalIn (9999+1) t a b).run P w:=rfl
theorem K3(ok:cF P TT){t:TypeId}{i:TI}(ht:TT t=some i){x y:AV}{want:Bool}{K:AV→Prop}(h:xQ i.k want x y K):
  ∃r:Bool,K (.bool (r == want))∧∀(F:Nat→Prop) (w:World) (a b:Value),ar F w x a→ar F w y b→(∀u,a≠.agg u)∧(∀w',(Op.equal t a b).run P w'=.ok r w')∧
   binOp .eql t a b=(do pure (.bool (← Op.equal t a b)))∧binOp .neq t a b=(do pure (.bool (!(← Op.equal t a b)))):=by
 obtain⟨j,d,z,hj,hd,_,_,hf,_,_⟩:=cq ok ht
 unfold xQ at h
 split at h
 ·rename_i e hk
  rw[hk]at hf;have:=C3 hf;subst this
  refine⟨true,by simpa using h,fun F w a b ha hb =>?_⟩
  cases ha;cases hb
  exact⟨by simp,fun w'=>by rw[oJ,Op.equalIn,Sem.run_bind,run_underlying hd];rfl,rfl,rfl⟩
 ·rename_i e b' o' hk
  rw[hk]at hf;have:=C3 hf;subst this
  refine⟨false,by simpa using h,fun F w a b ha hb =>?_⟩
  cases ha;cases hb
  exact⟨by simp,fun w'=>by rw[oJ,Op.equalIn,Sem.run_bind,run_underlying hd];rfl,rfl,rfl⟩
 ·rename_i e cs hk
  rw[hk]at hf;have:=C3 hf;subst this
  refine⟨false,by simpa using h,fun F w a b ha hb =>?_⟩
  obtain⟨_,_,rfl,_⟩:=ha.vv
  cases hb
  exact⟨by simp,fun w'=>by rw[oJ,Op.equalIn,Sem.run_bind,run_underlying hd];rfl,rfl,rfl⟩
 ·rename_i e hk
  rw[hk]at hf;have:=iu hf;subst this
  refine⟨true,by simpa using h,fun F w a b ha hb =>?_⟩
  cases ha;cases hb
  exact⟨by simp,fun w'=>by rw[oJ,Op.equalIn,Sem.run_bind,run_underlying hd];rfl,rfl,rfl⟩
 ·rename_i e _ _ _ _ hk
  rw[hk]at hf;have:=iu hf;subst this
  refine⟨false,by simpa using h,fun F w a b ha hb =>?_⟩
  obtain⟨_,_,rfl,_⟩:=ha.jO
  cases hb
  exact⟨by simp,fun w'=>by rw[oJ,Op.equalIn,Sem.run_bind,run_underlying hd];rfl,rfl,rfl⟩
 ·rename_i e hk
  rw[hk]at hf;have:=iu hf;subst this
  refine⟨false,by simpa using h,fun F w a b ha hb =>?_⟩
  cases ha;cases hb
  exact⟨by simp,fun w'=>by rw[oJ,Op.equalIn,Sem.run_bind,run_underlying hd];rfl,rfl,rfl⟩
 ·rename_i e s l hk
  rw[hk]at hf;have:=iu hf;subst this
  refine⟨false,by simpa using h.go,fun F w a b ha hb =>?_⟩
  obtain⟨_,c,rfl,_,_,h4⟩:=ha.Bf
  obtain⟨b',o,rfl,_⟩:=h4 (List.ne_nil_of_length_pos h.fact)
  cases hb
  exact⟨by simp,fun w'=>by rw[oJ,Op.equalIn,Sem.run_bind,run_underlying hd];rfl,rfl,rfl⟩
 ·rename_i hk
  rw[hk]at hf;obtain⟨m,rfl⟩:=LH hf
  refine⟨true,by simpa using h,fun F w a b ha hb =>?_⟩
  cases ha;cases hb
  exact⟨by simp,fun w'=>by rw[oJ,Op.equalIn,Sem.run_bind,run_underlying hd];rfl,rfl,rfl⟩
 ·rename_i _ _ hk
  rw[hk]at hf;obtain⟨m,rfl⟩:=LH hf
  refine⟨false,by simpa using h,fun F w a b ha hb =>?_⟩
  cases ha;cases hb
  exact⟨by simp,fun w'=>by rw[oJ,Op.equalIn,Sem.run_bind,run_underlying hd];rfl,rfl,rfl⟩
 ·rename_i hk
  rw[hk]at hf;obtain⟨_,_,_,rfl⟩:=My hf
  refine⟨true,by simpa using h,fun F w a b ha hb =>?_⟩
  cases ha;cases hb
  exact⟨by simp,fun w'=>by rw[oJ,Op.equalIn,Sem.run_bind,run_underlying hd];rfl,rfl,rfl⟩
 ·rename_i _ _ _ hk
  rw[hk]at hf;obtain⟨_,_,_,rfl⟩:=My hf
  refine⟨false,by simpa using h,fun F w a b ha hb =>?_⟩
  cases ha;cases hb
  exact⟨by simp,fun w'=>by rw[oJ,Op.equalIn,Sem.run_bind,run_underlying hd];rfl,rfl,rfl⟩
 ·exact h.elim
theorem Vi(ok:cF P TT){op:BinOp}{t yt:TypeId}{x y:Operand}{ρ:Operand→AV}{K:AV→Prop}(h:Bi TT op t y (ρ x) (ρ y) K):∃v,K v∧dV P (.binOp op t x y yt) ρ v:=by
 unfold Bi at h
 split at h
 ·rename_i k a k' b hx hy
  have fin:(∃v u,K v∧(∀F w,ar F w v u)∧∀(t:TypeId) (w:World),(binOp op t (.int k a) (.int k' b)).run P w=.ok u w)→∃v,K v∧dV P (.binOp op t x y yt) ρ v:=by
   rintro⟨v,u,hk,hu,hr⟩
   refine⟨v,hk,kV hu fun η F w o ho aG =>?_⟩
   have h1:=aG x (by simp[Op.operands])
   have h2:=aG y (by simp[Op.operands])
   rw[hx]at h1;rw[hy]at h2
   have e1:=h1.fk;have e2:=h2.fk
   intro w
   refine pF ho ?_ ?_
   ·rw[e1,e2];exact tb ⟨by simp,.inl (by simp)⟩ w
   ·rw[e1,e2];exact hr t w
  split at h
  ·exact fin (KI h)
  ·exact fin (KI h)
  ·rename_i uE mr
   split at h
   ·rename_i hk
    have:=of_decide_eq_true hk
    subst this
    exact fin (Tc ⟨uE,mr⟩ h)
   ·exact h.elim
 ·rename_i a b hx hy
  split at h
  ·rename_i s b' z' ht
   obtain⟨j,d,z,hj,hd,_,_,hf,_,_⟩:=cq ok ht
   have:=fits_bool hf;subst this
   have he:∀w,(Op.equal t (.bool a) (.bool b)).run P w=.ok (a == b) w:=fun w=>by rw[oJ,Op.equalIn,Sem.run_bind,run_underlying hd];rfl
   split at h
   ·refine⟨_,oP h,kV (fun _ _=>.bool _) fun η F w o ho aG =>?_⟩
    have h1:=aG x (by simp[Op.operands])
    have h2:=aG y (by simp[Op.operands])
    rw[hx]at h1;rw[hy]at h2
    have e1:=h1.oX;have e2:=h2.oX
    intro w
    refine pF ho ?_ ?_
    ·rw[e1,e2];exact tb ⟨by simp,.inl (by simp)⟩ w
    ·rw[e1,e2];simp[binOp,he]
   ·refine⟨_,oP h,kV (fun _ _=>.bool _) fun η F w o ho aG =>?_⟩
    have h1:=aG x (by simp[Op.operands])
    have h2:=aG y (by simp[Op.operands])
    rw[hx]at h1;rw[hy]at h2
    have e1:=h1.oX;have e2:=h2.oX
    intro w
    refine pF ho ?_ ?_
    ·rw[e1,e2];exact tb ⟨by simp,.inl (by simp)⟩ w
    ·rw[e1,e2];simp[binOp,he]
   ·exact h.elim
  ·exact h.elim
 ·rename_i a b hx hy
  have fin:∀r:Bool,K (.bool r)→(∀w,(binOp op t (.string a) (.string b)).run P w=.ok (.bool r) w)→∃v,K v∧dV P (.binOp op t x y yt) ρ v:=by
   intro r hk hr
   refine⟨_,hk,kV (fun _ _=>.bool _) fun η F w o ho aG =>?_⟩
   have h1:=aG x (by simp[Op.operands])
   have h2:=aG y (by simp[Op.operands])
   rw[hx]at h1;rw[hy]at h2
   have e1:=h1.AR;have e2:=h2.AR
   intro w
   refine pF ho ?_ ?_
   ·rw[e1,e2];exact tb ⟨by simp,.inl (by simp)⟩ w
   ·rw[e1,e2];exact hr w
  split at h
  ·exact fin _ (oP h) fun w=>rfl
  ·exact fin _ (oP h) fun w=>rfl
  ·exact h.elim
 ·split at h
  ·rename_i i hc ht
   obtain⟨cv,rfl⟩:∃cv,y=.const cv:=by cases y <;> first | exact⟨_,rfl⟩ | cases hc
   split at h
   ·obtain⟨r,hk,hr⟩:=K3 ok ht h
    refine⟨_,hk,kV (fun _ _=>.bool _) fun η F w o ho aG =>?_⟩
    obtain⟨g1,g2,g3,g4⟩:=hr F w _ _ (aG x (by simp[Op.operands])) (aG (.const cv) (by simp[Op.operands]))
    exact fun w=>pF ho (K5 w g1) (by rw[g3];simp[g2])
   ·obtain⟨r,hk,hr⟩:=K3 ok ht h
    refine⟨_,hk,kV (fun _ _=>.bool _) fun η F w o ho aG =>?_⟩
    obtain⟨g1,g2,g3,g4⟩:=hr F w _ _ (aG x (by simp[Op.operands])) (aG (.const cv) (by simp[Op.operands]))
    exact fun w=>pF ho (K5 w g1) (by rw[g4];simp[g2])
   ·exact h.elim
  ·exact h.elim
end
section
variable {P:Program} {TT:TypeId→Option TI}
theorem Ge{F:Nat→Prop}{w:World}{x:AV}{v:Value}{cs:List AV}(h:ar F w x v)(hc:x.cells?=some cs):
  v.cells.size=cs.length∧∀(i:Nat) (y:AV),cs[i]?=some y→y.leaf=true∧ar F w y (v.cells.getD i undef):=by
 have one:∀(hl:x.leaf=true),some [x]=some cs→v.cells.size=cs.length∧∀(i:Nat) (y:AV),cs[i]?=some y→y.leaf=true∧ar F w y (v.cells.getD i undef):=by
  intro hl e
  have e:=Option.some.inj e
  subst e
  have h1:=h.one hl
  have hv:v.cells = #[v]:=by cases v <;> first | rfl | cases h1
  rw[hv]
  exact⟨rfl,fun i y hi=>by cases i <;> simp at hi;subst hi;exact⟨hl,h⟩⟩
 cases x with
 | agg cs' =>
  obtain rfl:=Option.some.inj hc
  obtain⟨vs,rfl,h1,h2⟩:=h.sE
  exact⟨h1.symm,h2⟩
 | tup=>cases hc
 | any=>cases hc
 | l9=>cases hc
 | pS=>cases hc
 | kA=>cases hc
 | _=>exact one rfl hc
def nq(F:Nat→Prop)(w:World)(cs:List AV)(vs:Array Value):Prop:=cs.length=vs.size∧∀(i:Nat) (x:AV),cs[i]?=some x→x.leaf=true∧ar F w x (vs.getD i undef)
theorem nq.set{F:Nat→Prop}{w:World}{cs:List AV}{vs:Array Value}(h:nq F w cs vs)(k:Nat){x:AV}{v:Value}(hl:x.leaf=true)(hx:ar F w x v):nq F w (cs.set k x) (vs.setIfInBounds k v):=by
 refine⟨by simp[h.1],fun i y hi =>?_⟩
 rw[List.getElem?_set]at hi
 by_cases hk:k=i
 ·subst hk
  by_cases ab:k<cs.length
  ·simp[ab]at hi
   subst hi
   have:k<vs.size:=by rw[← h.1];exact ab
   exact⟨hl,by simpa [Array.getD,this]using hx⟩
  ·simp[ab]at hi
 ·simp[hk]at hi
  obtain⟨h1,h2⟩:=h.2 i y hi
  refine⟨h1,?_⟩
  have ab:i<vs.size:=by rw[← h.1];exact (List.getElem?_eq_some_iff.1 hi).1
  simpa [Array.getD,ab,Array.getElem_setIfInBounds,hk]using h2
theorem Ln{F:Nat→Prop}{w:World}:∀(xs:List AV) (us:List Value) (cs:List AV) (vs:Array Value) (k n:Nat),xs.length=us.length→
  (∀(i:Nat) (x:AV),xs[i]?=some x→x.leaf=true∧ar F w x (us.getD i undef))→nq F w cs vs→nq F w (eF cs (k+n) xs) ((us.zipIdx n).foldl (fun c p=>c.setIfInBounds (k+p.2) p.1) vs)
 | [],[],cs,vs,k,n,_,_,h=>h
 | x::xs,u::us,cs,vs,k,n,hl,hx,h=>by
  have h0:=hx 0 x rfl
  simp only[eF,List.zipIdx_cons,List.foldl_cons]
  exact Ln xs us _ _ k (n+1) (by simpa using hl) (fun i y hi=>by simpa using hx (i+1) y (by simpa using hi)) (h.set _ h0.1 (by simpa using h0.2))
 | [],_::_,_,_,_,_,hl,_,_=>by simp at hl
 | _::_,[],_,_,_,_,hl,_,_=>by simp at hl
theorem wW:∀(xs cs:List AV) (k:Nat),(eF cs k xs).length=cs.length
 | [],cs,k=>rfl
 | x::xs,cs,k=>by simp[eF,wW xs]
theorem C4{F:Nat→Prop}{w:World}{pl:List (Nat×Nat)}{place:Nat→Option (Nat×Nat)}(hp:∀(i:Nat) (p:Nat×Nat),pl[i]?=some p→place i=some p):
  ∀(parts:List (Nat×AV)) (us:List (Nat×Value)) (cs:List AV) (vs:Array Value) (out:List AV),parts.length=us.length→
   (∀(i:Nat) (p:Nat×AV) (u:Nat×Value),parts[i]?=some p→us[i]?=some u→p.1=u.1∧ar F w p.2 u.2)→nq F w cs vs→pP pl cs parts=some out→∃dy,Instr.fill place vs us=some dy∧nq F w out dy
 | [],[],cs,vs,out,_,_,h,e=>⟨vs,rfl,by simp[pP]at e;subst e;exact h⟩
 | p::parts,u::us,cs,vs,out,hl,hx,h,e=>by
  obtain⟨i,x⟩:=p
  obtain⟨i',v⟩:=u
  obtain⟨rfl,hv⟩:=hx 0 _ _ rfl rfl
  simp only[pP]at e
  split at e
  ·rename_i off size xs h1 h2
   split at e
   ·rename_i e1 e2
    have e1:=Nat.eq_of_beq_eq_true e1
    have e2:=Nat.le_of_ble_eq_true e2
    obtain⟨c1,c2⟩:=Ge hv h2
    have hs:=Ln xs v.cells.toList cs vs off 0 (by simp[c1]) (fun i y hi=>by
     have:=c2 i y hi
     have ab:i<v.cells.size:=by rw[c1];exact (List.getElem?_eq_some_iff.1 hi).1
     simpa [Array.getD,List.getD,ab]using this) h
    obtain⟨dy,f1,f2⟩:=C4 hp parts us _ _ out (by simpa using hl) (fun i p u hi hu=>hx (i+1) p u (by simpa using hi) (by simpa using hu)) hs e
    refine⟨dy,?_,f2⟩
    simp only[Instr.fill,hp _ _ h1]
    rw[if_neg (by simp[c1,e1];rw[← h.1];omega)]
    rw[← f1]
    congr 1
    rw[← Array.foldl_toList]
    simp
   ·cases e
  ·cases e
 | [],_::_,_,_,_,hl,_,_,_=>by simp at hl
 | _::_,[],_,_,_,hl,_,_,_=>by simp at hl
theorem KK(ok:cF P TT):∀(fs:List Field) (ps:List (Nat×Nat)),zU TT (fs.map fun f=>(f.offset,f.type))=some ps→fs.mapM (fun f=>(P.info? f.type).map fun i=>(f.offset,i.size))=some ps
 | [],ps,h=>by simp[zU]at h;subst h;rfl
 | f::fs,ps,h=>by
  simp only[List.map_cons,zU]at h
  split at h
  ·rename_i i ps' h1 h2
   obtain⟨j,_,_,hj,_,hs,_⟩:=cq ok h1
   have:=KK ok fs ps' h2
   simp at h
   subst h
   simp[List.mapM_cons,hj,this,hs]
  ·cases h
theorem tw{F:Nat→Prop}{w:World}{xs:List AV}{z:Value}(h:nI xs z.cells.toList=true):nq F w xs z.cells:=by
 obtain⟨h1,h2⟩:=LV (F:=F) (w:=w) h
 refine⟨by simpa using h1,fun i x hx =>?_⟩
 obtain⟨h3,h4⟩:=h2 i x hx
 refine⟨h4,?_⟩
 have ab:i<z.cells.size:=by have:=(List.getElem?_eq_some_iff.1 hx).1;simp at h1;omega
 simpa [Array.getD,List.getD,ab]using h3
theorem nq.Q4{F:Nat→Prop}{w:World}{cs:List AV}{vs:Array Value}(h:nq F w cs vs):ar F w (.agg cs) (.agg vs):=.agg _ _ h.1 (fun i x hx=>(h.2 i x hx).1) (fun i x hx=>(h.2 i x hx).2)
theorem Me{F:Nat→Prop}{w:World}{parts:Array (Nat×Operand)}{ρ:Operand→AV}{η:Operand→Value}(hx:∀x∈(parts.toList.map (·.2)),ar F w (ρ x) (η x)):
  (parts.toList.map fun p=>(p.1,ρ p.2)).length=(parts.map fun (i,x)=>(i,η x)).toList.length∧∀(i:Nat) (p:Nat×AV) (u:Nat×Value),(parts.toList.map fun p=>(p.1,ρ p.2))[i]?=some p→(parts.map fun (i,x)=>(i,η x)).toList[i]?=some u→p.1=u.1∧ar F w p.2 u.2:=by
 refine⟨by simp,fun i p u hp hu =>?_⟩
 simp only[Array.toList_map,List.getElem?_map,Option.map_eq_some_iff]at hp hu
 obtain⟨a,h1,rfl⟩:=hp
 obtain⟨a',h2,rfl⟩:=hu
 rw[h1]at h2
 cases h2
 exact⟨rfl,hx a.2 (List.mem_map.2 ⟨a,List.mem_of_getElem? h1,rfl⟩)⟩
theorem Sw(ok:cF P TT){t:TypeId}{parts:Array (Nat×Operand)}{ρ:Operand→AV}{v:AV}(h:DP TT t (parts.toList.map fun p=>(p.1,ρ p.2))=some v):dV P (.build t parts) ρ v:=by
 intro η F w o ho hx
 obtain⟨hl,hr⟩:=Me (parts:=parts) (ρ:=ρ) (η:=η) (F:=F) (w:=w) (by simpa [Op.operands]using hx)
 have fin:∀{cells:Array Value} {cs:List AV},P.built t (parts.map fun (i,x)=>(i,η x)).toList=some cells→nq F w cs cells→∃v',(∀w',(execOp η o).run P w'=.ok (.value v') w')∧ar F w (.agg cs) v':=
  fun hb hc=>⟨_,fun w'=>by simp only[execOp,ho,Sem.run_bind,run_build w' t _ _ hb];rfl,hc.Q4⟩
 unfold DP at h
 split at h
 ·rename_i fs sz oz z0 ht
  obtain⟨j,d,z,hj,hd,hs,hb,hf,hz,fQ⟩:=cq ok ht
  obtain⟨fields,rfl,wN⟩:=Gb hf
  split at h
  ·rename_i ps uC
   rw[← wN]at uC
   have hm:=KK ok _ _ uC
   obtain⟨out,e1,rfl⟩:=Option.map_eq_some_iff.1 h
   obtain⟨dy,f1,f2⟩:=C4 (place:=(ps.toArray[·]?)) (fun i p hi=>by simpa using hi) _ _ _ _ _ hl hr (tw (F:=F) (w:=w) fQ) e1
   exact fin (by simp only[Program.built,hj,hd,hz,hm];exact f1) f2
  ·cases h
 ·rename_i n e sz oz z0 ht
  obtain⟨j,d,z,hj,hd,hs,hb,hf,hz,fQ⟩:=cq ok ht
  obtain rfl:=NP hf
  split at h
  ·rename_i i hi
   obtain⟨j',d',z',jH,iL,cT,_⟩:=cq ok hi
   obtain⟨out,e1,rfl⟩:=Option.map_eq_some_iff.1 h
   obtain⟨dy,f1,f2⟩:=C4 (place:=fun k=>some (k*j'.size,j'.size)) (fun k p hk=>by
    obtain⟨a,ha,rfl⟩:=List.getElem?_eq_some_iff.1 hk
    simp[cT]) _ _ _ _ _ hl hr (tw (F:=F) (w:=w) fQ) e1
   exact fin (by simp only[Program.built,hj,hd,hz,jH];exact f1) f2
  ·cases h
 ·cases h
end
section
variable {P:Program} {TT:TypeId→Option TI}
theorem VG{op:UnOp}{t:TypeId}{x:Operand}{ρ:Operand→AV}{K:AV→Prop}(h:Bp op (ρ x) K):∃v,K v∧dV P (.unOp op t x) ρ v:=by
 unfold Bp at h
 split at h
 ·rename_i b hx
  refine⟨_,h,kV (fun _ _=>.bool _) fun η F w o ho aG =>?_⟩
  have h1:=aG x (by simp[Op.operands]);rw[hx]at h1
  simp[execOp,ho,h1.oX,Op.unary]
 ·rename_i k n hx
  refine⟨_,h,kV (fun _ _=>.int _ _) fun η F w o ho aG =>?_⟩
  have h1:=aG x (by simp[Op.operands]);rw[hx]at h1
  simp[execOp,ho,h1.fk,Op.unary,Op.intArith]
 ·rename_i k n hx
  refine⟨_,h,kV (fun _ _=>.int _ _) fun η F w o ho aG =>?_⟩
  have h1:=aG x (by simp[Op.operands]);rw[hx]at h1
  rw[show execOp η o=(do pure (.value (← Op.intBits .xor k (if k.signed then -1 else k.max) n))) by simp[execOp,ho,h1.fk,Op.unary]]
  exact fun _=>rfl
 ·rename_i n hx
  refine⟨_,h,fun η F w o ho aG =>?_⟩
  have h1:=aG x (by simp[Op.operands]);rw[hx]at h1
  obtain⟨b,e,hb⟩:=h1.EE
  exact⟨.float .f64 (Op.negFloat .f64 b),fun w'=>by simp[execOp,ho,e,Op.unary],.e8 _ _ (YJ hb)⟩
 ·exact h.elim
theorem Tv(ok:cF P TT){s d:TypeId}{x:Operand}{ρ:Operand→AV}{K:AV→Prop}(h:AJ TT s d (ρ x) K):∃v,K v∧dV P (.convert s d x) ρ v:=by
 unfold AJ at h
 split at h
 ·rename_i i k sz oz z0 k' n hs hd hx
  obtain⟨_,ds,_,_,BR,_⟩:=cq ok hs
  obtain⟨_,dd,_,_,sW,_,_,hf,_,_⟩:=cq ok hd
  obtain rfl:=fits_int hf
  refine⟨_,h,kV (fun _ _=>.int _ _) fun η F w o ho aG =>?_⟩
  have h1:=aG x (by simp[Op.operands]);rw[hx]at h1
  simp[execOp,ho,h1.fk,convert,run_underlying BR,run_underlying sW,Conv.intToInt]
 ·rename_i i sz oz z0 k' n hs hd hx
  obtain⟨_,ds,_,_,BR,_⟩:=cq ok hs
  obtain⟨_,dd,_,_,sW,_,_,hf,_,_⟩:=cq ok hd
  obtain rfl:=WT hf
  refine⟨_,h.go,fun η F w o ho aG =>?_⟩
  have h1:=aG x (by simp[Op.operands]);rw[hx]at h1
  refine⟨.float .f64 (FloatKind.nearest .f64 n),fun w' =>?_,.e8 _ _ (aa0 h.fact)⟩
  have hr:=run_convert_int_float (P:=P) w' s d k' .f64 n (by rw[BR];rfl) sW
  simp only[execOp,ho,h1.fk,Sem.run_bind,hr]
  rfl
 ·rename_i i k sz oz z0 n hs hd hx
  obtain⟨_,ds,_,_,BR,_⟩:=cq ok hs
  obtain⟨_,dd,_,_,sW,_,_,hf,_,_⟩:=cq ok hd
  obtain rfl:=fits_int hf
  refine⟨_,h.go,fun η F w o ho aG =>?_⟩
  have h1:=aG x (by simp[Op.operands]);rw[hx]at h1
  obtain⟨b,e,hb⟩:=h1.EE
  refine⟨.int k n,fun w' =>?_,.int _ _⟩
  have hr:=run_convert_float_int (P:=P) w' s d .f64 k b n (by rw[BR];rfl) sW (YK hb k h.fact)
  simp only[execOp,ho,e,Sem.run_bind,hr]
  rfl
 ·exact h.elim
theorem Sk(ok:cF P TT){t:TypeId}{x:Operand}{ρ:Operand→AV}{i:TI}(ht:TT t=some i)(hn:i.k≠.iface):dV P (.makeInterface t x) ρ (.iface t (ρ x)):=by
 intro η F w o ho hx
 obtain⟨_,d,_,_,hd,_,_,hf,_,_⟩:=cq ok ht
 refine⟨_,?_,.iface _ _ _ (hx x (by simp[Op.operands]))⟩
 have:∀m,d≠.interface m:=by rintro m rfl;cases hk:i.k <;> rw[hk]at hf <;> simp_all [TK.fits]
 cases d <;> first | exact absurd rfl (this _) | simp[execOp,ho,Instr.makeInterface,run_underlying hd]
theorem Ro{f:Fn}{first cap:Array Operand}{ρ:Operand→AV}:dV P (.makeFunc f first cap) ρ (.fn f (first.toList.map ρ) (cap.toList.map ρ)):=by
 intro η F w o ho hx
 have key:∀(xs:Array Operand),(∀x∈xs.toList,ar F w (ρ x) (η x))→∀(i:Nat) (x:AV),(xs.toList.map ρ)[i]?=some x→ar F w x ((xs.map η).getD i undef):=by
  intro xs h i x hi
  simp only[List.getElem?_map,Option.map_eq_some_iff]at hi
  obtain⟨a,h1,rfl⟩:=hi
  have ab:i<xs.size:=by have:=(List.getElem?_eq_some_iff.1 h1).1;simpa using this
  have:xs[i]=a:=by simpa [ab]using h1
  simpa [Array.getD,ab,this]using h a (List.mem_of_getElem? h1)
 exact⟨.func f (first.map η) (cap.map η),by simp[execOp,ho,Instr.makeFunc],.fn _ _ _ _ _ (by simp) (by simp) (key first fun x jW=>hx x (by simp only[Op.operands,Array.toList_append,List.mem_append];exact .inl jW)) (key cap fun x jW=>hx x (by simp only[Op.operands,Array.toList_append,List.mem_append];exact .inr jW))⟩
theorem mF(b o n:Nat):(⟨b,o,none⟩:Addr).add n=⟨b,o+n,none⟩:=Addr.add_mid b o n
theorem Rm(ok:cF P TT){s:TypeId}{x:Operand}{f:Nat}{ρ:Operand→AV}{K:AV→Prop}(h:zc TT s (ρ x) f K):∃v,K v∧dV P (.fieldAddr s x f) ρ v:=by
 unfold zc at h
 split at h
 ·rename_i fs sz oz z0 ht
  obtain⟨_,d,_,_,hd,_,_,hf,_,_⟩:=cq ok ht
  obtain⟨fields,rfl,wN⟩:=Gb hf
  split at h
  ·rename_i off t ik
   split at h
   ·rename_i i hi
    obtain⟨j',d',z',jH,iL,cT,_⟩:=cq ok hi
    rw[← wN,List.getElem?_map,Option.map_eq_some_iff]at ik
    obtain⟨fd,JS,e⟩:=ik
    cases e
    have EA:fields[f]?=some fd:=by simpa using JS
    split at h
    ·rename_i b o' hb hx
     have hb:=Nat.le_of_ble_eq_true hb
     have hz:¬j'.size=0:=by omega
     refine⟨_,h,D1 rfl fun η F w o ho aG =>?_⟩
     have h1:=aG x (by simp[Op.operands]);rw[hx]at h1
     exact⟨h1.xd,fun _=>by simp[execOp,ho,h1.vX,Instr.fieldAt,run_underlying hd,EA,Instr.sureAddr,fieldPlace,run_sizeOf jH,hz,mF]⟩
    ·rename_i cs hb hx
     have hb:=Nat.le_of_ble_eq_true hb
     have hz:¬j'.size=0:=by omega
     refine⟨_,h,fun η F w o ho aG =>?_⟩
     have h1:=aG x (by simp[Op.operands]);rw[hx]at h1
     obtain⟨b,o',e,hF,cW⟩:=h1.vv
     exact⟨_,by simp[execOp,ho,e,Instr.fieldAt,run_underlying hd,EA,Instr.sureAddr,fieldPlace,run_sizeOf jH,hz,mF],(cW.drop _).eQ hF⟩
    ·exact h.elim
   ·exact h.elim
  ·exact h.elim
 ·exact h.elim
theorem y8(ok:cF P TT){t:TypeId}{i:TI}(ht:TT t=some i){F:Nat→Prop}{w:World}{cs:List AV}{vs:Array Value}(h:nq F w cs vs){k:Nat}{v:AV}(hv:cY i cs k=some v):
  ∃v',(∀w',(part t vs k).run P w'=.ok v' w')∧ar F w v v':=by
 obtain⟨j,d,z,hj,hd,hs,hb,hf,hz,fQ⟩:=cq ok ht
 have hw:=Mx hf
 obtain⟨hl,hr⟩:=h
 unfold cY at hv
 split at hv
 ·rename_i vR
  split at hv
  ·rename_i hle
   have hle:=Nat.le_of_ble_eq_true hle
   simp only[Option.some.injEq]at hv
   subst hv
   refine⟨.agg (vs.extract k (k+j.size)),fun _=>by unfold part;simp[Sem.run_bind,Gs hd,hw,vR,run_sizeOf hj],nq.Q4 ⟨by simp;omega,fun m x hx =>?_⟩⟩
   rw[List.getElem?_take]at hx
   split at hx
   ·rename_i hm
    rw[List.getElem?_drop]at hx
    obtain⟨h1,h2⟩:=hr _ x hx
    have ab:k+m<vs.size:=by rw[← hl];exact (List.getElem?_eq_some_iff.1 hx).1
    have ey:m<min (k+j.size) vs.size-k:=by omega
    refine⟨h1,?_⟩
    simpa [Array.getD,ab,ey]using h2
   ·cases hx
  ·cases hv
 ·rename_i vR
  obtain⟨h1,h2⟩:=hr k v hv
  have ab:k<vs.size:=by rw[← hl];exact (List.getElem?_eq_some_iff.1 hv).1
  refine⟨vs.getD k undef,fun w' =>?_,h2⟩
  unfold part
  rw[Sem.run_bind,Gs hd]
  simp[hw,vR,ab,Array.getD]
theorem MB(ok:cF P TT)(D:Nat):∀(d:Nat) (t:TypeId) (x y:AV) (l:List Bool),wT P TT d t x y=some l→∀(F:Nat→Prop) (w:World) (a b:Value),ar F w x a→ar F w y b→∀w',(Op.equalIn (D+d) t a b).run P w'=.ok (eA l) w':=by
 intro d
 induction d with
 | zero=>intro t x y l h;cases h
 | succ d ih =>
  intro t x y l h F w a b ha hb w'
  unfold wT at h
  split at h
  ·rename_i p q hu
   cases h
   rw[ha.oX,hb.oX]
   rw[show D+(d+1)=(D+d)+1 from rfl,run_equalIn_bool' w' (D+d) t p q hu]
   simp[eA]
  ·rename_i k0 k p k' q hu
   split at h
   ·rename_i hk
    have:=of_decide_eq_true hk
    subst this
    cases h
    rw[ha.fk,hb.fk]
    rw[show D+(d+1)=(D+d)+1 from rfl,run_equalIn_int w' (D+d) t k k0 p q hu]
    simp[eA]
    exact Bool.beq_eq_decide_eq _ _
   ·cases h
  ·rename_i p q hu
   cases h
   rw[ha.AR,hb.AR]
   rw[show D+(d+1)=(D+d)+1 from rfl,run_equalIn_string w' (D+d) t p q hu]
   simp[eA]
  ·rename_i fs xs ys hu
   split at h
   ·cases h
   ·rename_i ak
    obtain⟨vs,rfl,bz⟩:=ha.sE
    obtain⟨us,rfl,fA⟩:=hb.sE
    have hf:P.fieldsOf t=fs:=by simp[Program.fieldsOf,hu]
    rw[show D+(d+1)=(D+d)+1 from rfl,run_equalIn_agg w' (D+d) t vs us (by rw[hf];exact hu) ak,hf]
    have key:∀(gs:List Field) (l:List Bool),EG TT (wT P TT d) xs ys gs=some l→(Op.eqFields (D+d) vs us gs).run P w'=.ok (eA l) w':=by
     intro gs
     induction gs with
     | nil=>intro l h;cases h;simp[Op.eqFields,eA]
     | cons f gs ihg =>
      intro l h
      unfold EG at h
      split at h
      ·rename_i i hn hi
       split at h
       ·rename_i p q hp hq
        split at h
        ·rename_i l1 l2 h1 h2
         cases h
         obtain⟨p',e1,r1⟩:=y8 ok hi ⟨bz.1,bz.2⟩ hp
         obtain⟨q',e2,r2⟩:=y8 ok hi ⟨fA.1,fA.2⟩ hq
         have e3:=ih f.type p q l1 h1 F w p' q' r1 r2 w'
         have hn' : f.name ≠ "_" := by intro e; rw [e] at hn; cases hn
         simp only[Op.eqFields,hn',ne_eq,not_false_eq_true,if_true,Sem.run_bind,e1,e2,e3,Result.andThen_ok]
         cases kn:eA l1
         ·simp only[Bool.not_false,if_true,Sem.run_pure]
          have:eA (l1++l2)=false:=by unfold eA at kn ⊢;rw[List.all_append,kn];rfl
          rw[this]
         ·simp only[Bool.not_true,Bool.false_eq_true,if_false]
          rw[ihg l2 h2]
          have:eA (l1++l2)=eA l2:=by unfold eA at kn ⊢;rw[List.all_append,kn];rfl
          rw[this]
        ·cases h
       ·cases h
      ·cases h
    exact key fs.toList l h
  ·rename_i n e xs ys hu
   obtain⟨vs,rfl,bz⟩:=ha.sE
   obtain⟨us,rfl,fA⟩:=hb.sE
   have key:∀(ks:List Nat) (l:List Bool),EF TT (wT P TT d) e (P.cellsOf e) xs ys ks=some l→(Op.eqItems (D+d) e (P.cellsOf e) vs us ks).run P w'=.ok (eA l) w':=by
    intro ks
    induction ks with
    | nil=>intro l h;cases h;simp[Op.eqItems,eA]
    | cons k ks ihk =>
     intro l h
     unfold EF at h
     split at h
     ·rename_i i hi
      split at h
      ·rename_i p q hp hq
       split at h
       ·rename_i l1 l2 h1 h2
        cases h
        obtain⟨p',e1,r1⟩:=y8 ok hi ⟨bz.1,bz.2⟩ hp
        obtain⟨q',e2,r2⟩:=y8 ok hi ⟨fA.1,fA.2⟩ hq
        have e3:=ih e p q l1 h1 F w p' q' r1 r2 w'
        simp only[Op.eqItems,Sem.run_bind,e1,e2,e3,Result.andThen_ok]
        cases kn:eA l1
        ·simp only[Bool.not_false,if_true,Sem.run_pure]
         have:eA (l1++l2)=false:=by unfold eA at kn ⊢;rw[List.all_append,kn];rfl
         rw[this]
        ·simp only[Bool.not_true,Bool.false_eq_true,if_false]
         rw[ihk l2 h2]
         have:eA (l1++l2)=eA l2:=by unfold eA at kn ⊢;rw[List.all_append,kn];rfl
         rw[this]
       ·cases h
      ·cases h
     ·cases h
   split at h
   ·rename_i i hi
    obtain⟨j,_,_,hj,_⟩:=cq ok hi
    rw[show D+(d+1)=(D+d)+1 from rfl,run_equalIn_array w' (D+d) vs us hu hj]
    exact key _ l h
   ·cases h
  ·cases h
theorem U3{op:BinOp}{t yt:TypeId}{x y:Operand}{ρ:Operand→AV}{K:AV→Prop}{a b c d:Int}(hx:ρ x=.eM a b)(hy:ρ y=.eM c d)(h:Jc op a b c d K):∃v,K v∧dV P (.binOp op t x y yt) ρ v:=by
 have both:∀{η:Operand→Value} {F:Nat→Prop} {w:World},(∀z∈(Op.binOp op t x y yt).operands.toList,ar F w (ρ z) (η z))→∃a' b' c' d',η x=.complex .f64 a' b'∧η y=.complex .f64 c' d'∧gM a' a∧gM b' b∧gM c' c∧gM d' d:=fun {η F w} aG=>by
  have h1:=aG x (by simp[Op.operands])
  have h2:=aG y (by simp[Op.operands])
  rw[hx]at h1;rw[hy]at h2
  obtain⟨a',b',e1,h3,h4⟩:=h1.EJ
  obtain⟨c',d',e2,h5,h6⟩:=h2.EJ
  exact⟨a',b',c',d',e1,e2,h3,h4,h5,h6⟩
 cases op <;> simp only[Jc]at h
 case add =>
  refine⟨_,h.go,fun η F w o ho aG =>?_⟩
  obtain⟨a',b',c',d',e1,e2,h3,h4,h5,h6⟩:=both aG
  obtain⟨r,g1,g2⟩:=Hz h3 h5 h.fact.1
  obtain⟨q,g3,g4⟩:=Hz h4 h6 h.fact.2
  refine⟨.complex .f64 r q,fun w'=>pF ho (by rw[e1,e2];exact tb ⟨by simp,.inl (by simp)⟩ w') ?_,.eM _ _ _ _ g2 g4⟩
  rw[e1,e2]
  exact run_complex_sum w' .add (.inl rfl) t .f64 a' b' c' d' r q (by simp[cSumBits,g1,g3])
 case sub =>
  refine⟨_,h.go,fun η F w o ho aG =>?_⟩
  obtain⟨a',b',c',d',e1,e2,h3,h4,h5,h6⟩:=both aG
  obtain⟨r,g1,g2⟩:=Hy h3 h5 h.fact.1
  obtain⟨q,g3,g4⟩:=Hy h4 h6 h.fact.2
  refine⟨.complex .f64 r q,fun w'=>pF ho (by rw[e1,e2];exact tb ⟨by simp,.inl (by simp)⟩ w') ?_,.eM _ _ _ _ g2 g4⟩
  rw[e1,e2]
  exact run_complex_sum w' .sub (.inr rfl) t .f64 a' b' c' d' r q (by simp[cSumBits,g1,g3])
 case mul =>
  refine⟨_,h.go,fun η F w o ho aG =>?_⟩
  obtain⟨a',b',c',d',e1,e2,h3,h4,h5,h6⟩:=both aG
  obtain⟨⟨f1,f2,f3⟩,f4,f5,f6⟩:=h.fact
  obtain⟨r1,p1,q1⟩:=Dn h3 h5 f1
  obtain⟨r2,p2,q2⟩:=Dn h4 h6 f2
  obtain⟨r3,p3,q3⟩:=Hy q1 q2 f3
  obtain⟨r4,p4,q4⟩:=Dn h3 h6 f4
  obtain⟨r5,p5,q5⟩:=Dn h4 h5 f5
  obtain⟨r6,p6,q6⟩:=Hz q4 q5 f6
  refine⟨.complex .f64 r3 r6,fun w'=>pF ho (by rw[e1,e2];exact tb ⟨by simp,.inl (by simp)⟩ w') ?_,.eM _ _ _ _ q3 q6⟩
  rw[e1,e2]
  exact run_complex_mul w' t a' b' c' d' r3 r6 (by simp[cMulBits,p1,p2,p3,p4,p5,p6])
theorem Ty(ok:cF P TT){op:BinOp}{t yt:TypeId}{x y:Operand}{ρ:Operand→AV}{K:AV→Prop}(h:Bj P TT op t y (ρ x) (ρ y) K):∃v,K v∧dV P (.binOp op t x y yt) ρ v:=by
 unfold Bj at h
 split at h
 ·rename_i xs ys hx hy
  have both:∀(η:Operand→Value) (F:Nat→Prop) (w:World),(∀z∈(Op.binOp op t x y yt).operands.toList,ar F w (ρ z) (η z))→∃vs us,η x=.agg vs∧η y=.agg us∧ar F w (.agg xs) (.agg vs)∧ar F w (.agg ys) (.agg us):=fun η F w aG=>by
   have h1:=aG x (by simp[Op.operands])
   have h2:=aG y (by simp[Op.operands])
   rw[hx]at h1;rw[hy]at h2
   obtain⟨vs,e1,_⟩:=h1.sE
   obtain⟨us,e2,_⟩:=h2.sE
   rw[e1]at h1;rw[e2]at h2
   exact⟨vs,us,e1,e2,h1,h2⟩
  split at h
  ·obtain⟨g1,g2,go⟩:=h
   refine⟨_,oP go,kV (fun _ _=>.bool _) fun η F w o ho aG =>?_⟩
   obtain⟨vs,us,e1,e2,r1,r2⟩:=both η F w aG
   intro w'
   refine pF ho ?_ ?_
   ·rw[e1,e2];exact run_eqGuard_agg w' _ t x y vs us g1
   ·rw[e1,e2,run_eql_struct,show (10000:Nat)=9992+8 from rfl,MB ok 9992 8 t _ _ _ g2 F w _ _ r1 r2 w'];rfl
  ·obtain⟨g1,g2,go⟩:=h
   refine⟨_,oP go,kV (fun _ _=>.bool _) fun η F w o ho aG =>?_⟩
   obtain⟨vs,us,e1,e2,r1,r2⟩:=both η F w aG
   intro w'
   refine pF ho ?_ ?_
   ·rw[e1,e2];exact run_eqGuard_agg w' _ t x y vs us g1
   ·rw[e1,e2,run_neq_struct,show (10000:Nat)=9992+8 from rfl,MB ok 9992 8 t _ _ _ g2 F w _ _ r1 r2 w'];rfl
  ·exact h.elim
 ·rename_i a b c d hx hy
  exact U3 hx hy h
 ·exact Vi ok h
theorem Sm(ok:cF P TT){s:TypeId}{x:Operand}{f:Nat}{ρ:Operand→AV}{K:AV→Prop}(h:Al TT s (ρ x) f K):∃v,K v∧dV P (.field s x f) ρ v:=by
 unfold Al at h
 split at h
 ·rename_i fs sz oz z0 cs ht hx
  obtain⟨_,d,_,_,hd,_,_,hf,_,_⟩:=cq ok ht
  obtain⟨fields,rfl,wN⟩:=Gb hf
  split at h
  ·rename_i off t ik
   split at h
   ·rename_i i hi
    rw[← wN,List.getElem?_map,Option.map_eq_some_iff]at ik
    obtain⟨fd,JS,e⟩:=ik
    cases e
    have EA:fields[f]?=some fd:=by simpa using JS
    split at h
    ·rename_i v hv
     refine⟨v,h,fun η F w o ho aG =>?_⟩
     have h1:=aG x (by simp[Op.operands]);rw[hx]at h1
     obtain⟨vs,e,h2,h3⟩:=h1.sE
     obtain⟨v',h4,h5⟩:=y8 ok hi (w:=w) ⟨h2,h3⟩ hv
     exact⟨v',by simp[execOp,ho,e,Instr.field,run_underlying hd,EA,asAgg,h4],h5⟩
    ·exact h.elim
   ·exact h.elim
  ·exact h.elim
 ·exact h.elim
theorem Rj(ok:cF P TT){t:TypeId}{x ix:Operand}{ρ:Operand→AV}{K:AV→Prop}(h:y9 TT t (ρ x) (ρ ix) K):∃v,K v∧dV P (.indexAddr t x ix) ρ v:=by
 unfold y9 at h
 split at h
 ·rename_i e sz oz z0 k n ht wL
  obtain⟨_,d,_,_,hd,_,_,hf,_,_⟩:=cq ok ht
  obtain rfl:=iu hf
  split at h
  ·rename_i i s l hi hx
   obtain⟨j',_,_,jH,_,cT,_⟩:=cq ok hi
   obtain⟨dz,lC⟩:=h
   obtain⟨dt,h0,h1,go⟩:=lC
   refine⟨_,go,fun η F w o ho aG =>?_⟩
   have a1:=aG x (by simp[Op.operands]);rw[hx]at a1
   have a2:=aG ix (by simp[Op.operands]);rw[wL]at a2
   obtain⟨a,c,e,km,lO,BU⟩:=a1.Bf
   have ab:n.toNat<l.length:=(List.getElem?_eq_some_iff.1 h1).1
   obtain⟨b,o',rfl,hF,Qi⟩:=BU (fun e=>by subst e;cases ab)
   obtain⟨cs',q1,q2,q3⟩:=Qi _ ab
   have iL:l[n.toNat]=dt:=by rw[List.getElem?_eq_getElem ab]at h1;exact Option.some.inj h1
   rw[iL]at q3
   have hn:0≤n∧n<(l.length:Int):=by omega
   refine⟨_,?_,(At.Oz s q2 q3).eQ hF⟩
   simp[execOp,ho,e,a2.fk,Instr.indexAt,asIntOf,run_underlying hd,hn,run_sizeOf jH,mF,cT,dz]
  ·rename_i i b off len es hi hx
   obtain⟨j',_,_,jH,_,cT,_⟩:=cq ok hi
   obtain⟨⟨dz,h0,h1⟩,go⟩:=h
   refine⟨_,go,D1 rfl fun η F w o ho aG =>?_⟩
   have a1:=aG x (by simp[Op.operands]);rw[hx]at a1
   have a2:=aG ix (by simp[Op.operands]);rw[wL]at a2
   obtain⟨a,cap,e,c,T,fz,m1,m2,m3,m4⟩:=a1.jO
   have ha:a=⟨b,off,none⟩:=by rcases m4 with m4 | m4;exact m4.1;omega
   subst ha
   exact⟨⟨c,T,fz,m1⟩,fun _=>by simp[execOp,ho,e,a2.fk,Instr.indexAt,asIntOf,run_underlying hd,h0,h1,run_sizeOf jH,mF,cT,dz]⟩
  ·exact h.elim
 ·rename_i m e sz oz z0 k n ht wL
  obtain⟨_,d,_,_,hd,_,_,hf,_,_⟩:=cq ok ht
  obtain rfl:=NP hf
  split at h
  ·rename_i i b o' hi hx
   obtain⟨j',_,_,jH,_,cT,_⟩:=cq ok hi
   obtain⟨⟨h0,h1⟩,go⟩:=h
   refine⟨_,go,D1 rfl fun η F w o ho aG =>?_⟩
   have a1:=aG x (by simp[Op.operands]);rw[hx]at a1
   have a2:=aG ix (by simp[Op.operands]);rw[wL]at a2
   exact⟨a1.xd,fun _=>by simp[execOp,ho,a1.vX,a2.fk,Instr.indexAt,asIntOf,Instr.sureAddr,run_underlying hd,h0,h1,run_sizeOf jH,mF,cT]⟩
  ·rename_i i cs hi hx
   obtain⟨j',_,_,jH,_,cT,_⟩:=cq ok hi
   obtain⟨⟨h0,h1⟩,go⟩:=h
   refine⟨_,go,fun η F w o ho aG =>?_⟩
   have a1:=aG x (by simp[Op.operands]);rw[hx]at a1
   have a2:=aG ix (by simp[Op.operands]);rw[wL]at a2
   obtain⟨b,o',e,hF,cW⟩:=a1.vv
   exact⟨_,by simp[execOp,ho,e,a2.fk,Instr.indexAt,asIntOf,Instr.sureAddr,run_underlying hd,h0,h1,run_sizeOf jH,mF,cT],(cW.drop _).eQ hF⟩
  ·exact h.elim
 ·exact h.elim
theorem Rw{x:Operand}{i:Nat}{ρ:Operand→AV}{vs:List AV}{v:AV}(hx:ρ x=.tup vs)(hv:vs[i]?=some v):dV P (.extract x i) ρ v:=by
 intro η F w o ho aG
 have a1:=aG x (by simp[Op.operands]);rw[hx]at a1
 cases he:η x with
 | tuple us =>
  rw[he]at a1
  cases a1 with
  | tup cs vs hs h =>
   have h1:=h i v hv
   have ab:i<us.size:=by rw[← hs];exact (List.getElem?_eq_some_iff.1 hv).1
   refine⟨us.getD i undef,?_,h1⟩
   simp[execOp,ho,he,Instr.extract,ab,Array.getD]
 | _=>rw[he]at a1;cases a1
theorem KS(ok:cF P TT){x:Operand}{tx t e:TypeId}{s b:Nat}{z:List AV}{ρ:Operand→AV}{K:AV→Prop}(ht:TT t=some ⟨.ptr e,s,b,z⟩)(gp:z=[.bX])(h:(∃t' v,ρ x=.iface t' v∧(match Nat.beq t' t with | true=>K (.tup [v,.bool true]) | false=>K (.tup [.bX,.bool false])))∨(ρ x=.nilif∧K (.tup [.bX,.bool false]))):∃v,K v∧dV P (.typeAssert x tx t true) ρ v:=by
 obtain⟨j,d,zv,hj,hd,hs,⟨hb,mm⟩,hf,hz,fQ⟩:=cq ok ht
 obtain rfl:=C3 hf
 have IM:∀{F:Nat→Prop} {w:World} {a c:AV} {u v:Value},ar F w a u→ar F w c v→ar F w (.tup [a,c]) (.tuple #[u,v]):=fun h1 h2=>.tup _ _ rfl fun i y hy=>by
  rcases i with _ | _ | i
  ·simp at hy;subst hy;exact h1
  ·simp at hy;subst hy;exact h2
  ·simp at hy
 have Jy:zv=.pointer none:=by
  obtain⟨j2,z2,k1,k2,k3⟩:=Od ok ht rfl
  rw[hj]at k1;cases k1
  rw[hz]at k2;cases k2
  cases zv with
  | agg cs=>cases k3
  | pointer p=>cases p with
   | none=>rfl
   | some p=>subst gp;exact absurd fQ (by simp[Value.cells,nI,AV.isVal])
  | _=>subst gp;exact absurd fQ (by simp[Value.cells,nI,AV.isVal])
 have hzv:∀w,(zeroValue t).run P w=.ok (.pointer none) w:=fun w=>by simp[zeroValue,typeInfo,hj,hz,Jy]
 rcases h with ⟨t',v,hx,h⟩ | ⟨hx,h⟩
 ·split at h
  ·rename_i hb
   have e:=Nat.eq_of_beq_eq_true hb
   subst e
   refine⟨_,h,fun η F w o ho aG =>?_⟩
   have a1:=aG x (by simp[Op.operands]);rw[hx]at a1
   cases hv:η x with
   | iface t2 u =>
    rw[hv]at a1
    cases a1 with
    | iface _ _ _ hu=>exact⟨.tuple #[u,.bool true],fun w'=>by simp[execOp,ho,hv,Instr.typeAssert,run_underlying hd],IM hu (.bool _)⟩
   | _=>rw[hv]at a1;cases a1
  ·rename_i hb
   refine⟨_,h,fun η F w o ho aG =>?_⟩
   have a1:=aG x (by simp[Op.operands]);rw[hx]at a1
   cases hv:η x with
   | iface t2 u =>
    rw[hv]at a1
    cases a1 with
    | iface _ _ _ hu =>
     have aI:¬t'=t:=fun e=>by subst e;rw[Nat.beq_refl]at hb;cases hb
     exact⟨.tuple #[.pointer none,.bool false],fun w'=>by simp[execOp,ho,hv,Instr.typeAssert,run_underlying hd,aI,hzv],IM .bX (.bool _)⟩
   | _=>rw[hv]at a1;cases a1
 ·refine⟨_,h,fun η F w o ho aG =>?_⟩
  have a1:=aG x (by simp[Op.operands]);rw[hx]at a1
  have hv:η x=.nilIface:=by revert a1;generalize η x=u;intro a1;cases a1;rfl
  exact⟨.tuple #[.pointer none,.bool false],fun w'=>by simp[execOp,ho,hv,Instr.typeAssert,run_underlying hd,hzv],IM .bX (.bool _)⟩
theorem rU{n:Int}{y:Nat}{code:BoundsCode}{k:IntKind}(h0:0≤n)(h1:n≤y)(w:World):(Instr.sliceBound (.int k n) y code).run P w=.ok n.toNat w:=by
 simp[Instr.sliceBound,asIntOf,h0,h1]
theorem FR{lo hi:Option AV}{p8 Bo:Option Value}{F:Nat→Prop}{w:World}{len cap:Nat}{l h:Int}(nw:∀x,lo=some x→∃v,p8=some v∧ar F w x v)(I1:lo=none→p8=none)(Fu:∀x,hi=some x→∃v,Bo=some v∧ar F w x v)(acf:hi=none→Bo=none)
  (el:qR lo=some l) (eh:xW len hi=some h) (h1:0≤l) (h2:l≤h) (h3:h≤len) (h4:len≤cap) (w':World):(Instr.sliceBounds true len cap p8 Bo none).run P w'=.ok (l.toNat,h.toNat,cap) w':=by
 have e2:(Bo=none∧h=len)∨∃k,Bo=some (.int k h):=by
  cases hi with
  | none=>exact .inl ⟨acf rfl,by simpa [xW]using eh.symm⟩
  | some x =>
   obtain⟨v,rfl,hv⟩:=Fu x rfl
   cases x <;> simp[xW]at eh
   subst eh
   exact .inr ⟨_,by rw[hv.fk]⟩
 have e1:(p8=none∧l=0)∨∃k,p8=some (.int k l):=by
  cases lo with
  | none=>exact .inl ⟨I1 rfl,by simpa [qR]using el.symm⟩
  | some x =>
   obtain⟨v,rfl,hv⟩:=nw x rfl
   cases x <;> simp[qR]at el
   subst el
   exact .inr ⟨_,by rw[hv.fk]⟩
 have hh:(h.toNat:Int)=h:=by omega
 rcases e2 with ⟨rfl,rfl⟩ | ⟨k2,rfl⟩ <;> rcases e1 with ⟨rfl,rfl⟩ | ⟨k1,rfl⟩
 ·simp[Instr.sliceBounds]
 ·simp[Instr.sliceBounds,rU h1 (show l≤(len:Nat) from h2)]
 ·simp[Instr.sliceBounds,rU (show 0≤h by omega) (show h≤(cap:Nat) by omega)]
 ·simp[Instr.sliceBounds,rU (show 0≤h by omega) (show h≤(cap:Nat) by omega),rU h1 (show l≤(h.toNat:Nat) by omega)]
theorem Rz{lo:Option AV}{p8:Option Value}{F:Nat→Prop}{w:World}{len cap:Nat}{l h m:Int}{k1 k2:IntKind}(nw:∀x,lo=some x→∃v,p8=some v∧ar F w x v)(I1:lo=none→p8=none)
  (el:qR lo=some l) (h1:0≤l) (h2:l≤h) (h3:h≤m) (h4:m≤len) (h5:len≤cap) (w':World):(Instr.sliceBounds true len cap p8 (some (.int k1 h)) (some (.int k2 m))).run P w'=.ok (l.toNat,h.toNat,m.toNat) w':=by
 have e1:(p8=none∧l=0)∨∃k,p8=some (.int k l):=by
  cases lo with
  | none=>exact .inl ⟨I1 rfl,by simpa [qR]using el.symm⟩
  | some x =>
   obtain⟨v,rfl,hv⟩:=nw x rfl
   cases x <;> simp[qR]at el
   subst el
   exact .inr ⟨_,by rw[hv.fk]⟩
 have hh:(h.toNat:Int)=h:=by omega
 rcases e1 with ⟨rfl,rfl⟩ | ⟨k1,rfl⟩
 ·simp[Instr.sliceBounds,rU (show 0≤m by omega) (show m≤(cap:Nat) by omega),rU (show 0≤h by omega) (show h≤(m.toNat:Nat) by omega)]
 ·simp[Instr.sliceBounds,rU (show 0≤m by omega) (show m≤(cap:Nat) by omega),rU (show 0≤h by omega) (show h≤(m.toNat:Nat) by omega),rU h1 (show l≤(h.toNat:Nat) by omega)]
theorem mG{F:Nat→Prop}{w:World}{ρ:Operand→AV}{η:Operand→Value}{o:Option Operand}(h:∀x,o=some x→ar F w (ρ x) (η x)):(∀x,o.map ρ=some x→∃v,o.map η=some v∧ar F w x v)∧(o.map ρ=none→o.map η=none):=by
 cases o with
 | none=>exact⟨(fun x h=>by cases h),fun _=>rfl⟩
 | some y=>exact⟨(fun x hx=>by cases hx;exact⟨_,rfl,h y rfl⟩),(fun h=>by cases h)⟩
theorem RX(ok:cF P TT){t:TypeId}{x:Operand}{lo hi mx:Option Operand}{ρ:Operand→AV}{K:AV→Prop}(h:xE TT t (ρ x) (lo.map ρ) (hi.map ρ) (mx.map ρ) K):∃v,K v∧dV P (.slice t x lo hi mx) ρ v:=by
 unfold xE at h
 split at h
 ·rename_i e sz oz z0 ht yH
  have yH:mx=none:=by simpa using yH
  subst yH
  obtain⟨_,d,_,_,hd,_,_,hf,_,_⟩:=cq ok ht
  obtain rfl:=iu hf
  have wh:∀{η:Operand→Value} {F:Nat→Prop} {w:World},(∀y∈(Op.slice t x lo hi none).operands.toList,ar F w (ρ y) (η y))→ar F w (ρ x) (η x)∧(∀y,lo=some y→ar F w (ρ y) (η y))∧(∀y,hi=some y→ar F w (ρ y) (η y)):=by
   intro η F w hy
   refine⟨hy x (by simp[Op.operands]),fun y e=>hy y (by subst e;simp[Op.operands]),fun y e=>hy y (by subst e;simp[Op.operands])⟩
  split at h
  ·rename_i i b off len es eg hx
   obtain⟨j',_,_,jH,_,cT,_⟩:=cq ok eg
   split at h
   ·rename_i l hh el eh
    obtain⟨⟨h1,h2,h3,dz⟩,go⟩:=h
    refine⟨_,go,fun η F w o ho aG =>?_⟩
    obtain⟨a1,a2,a3⟩:=wh aG
    rw[hx]at a1
    obtain⟨a,cap,ea,c,T,fz,m1,m2,m3,m4⟩:=a1.jO
    have hb:=FR (P:=P) (w:=w) (mG a2).1 (mG a2).2 (mG a3).1 (mG a3).2 el eh h1 h2 h3 m2
    refine⟨.slice (some (if cap=l.toNat then a else a.add (l.toNat*j'.size))) (hh.toNat-l.toNat) (cap-l.toNat),?_,?_⟩
    ·intro w'
     simp only[execOp,ho,Instr.sliceAt,Sem.run_bind,run_underlying hd,Result.andThen_ok,Option.map_none,ea,Instr.slice,hb,run_sizeOf jH,Sem.run_pure]
     split <;> rfl
    ·refine .ae _ _ _ _ _ _ ⟨c,T,fz,m1,by omega,by omega,?_⟩
     by_cases dw:cap=l.toNat
     ·refine .inr ?_
      rw[if_pos dw]
      rcases m4 with ⟨rfl,_⟩ | ⟨q1,q2,q3,q4⟩
      ·exact⟨rfl,rfl,by omega,by omega⟩
      ·exact⟨q1,q2,by omega,by omega⟩
     ·refine .inl ?_
      rw[if_neg dw]
      rcases m4 with ⟨rfl,q⟩ | ⟨q1,q2,q3,q4⟩
      ·refine⟨by rw[mF,cT,dz],?_⟩
       have:off+l.toNat*es+(cap-l.toNat)*es=off+cap*es:=by
        rw[Nat.add_assoc,← Nat.add_mul];congr 2;omega
       omega
      ·omega
   ·exact h.elim
  ·rename_i i s xs eg hx
   obtain⟨j',_,_,jH,_,cT,_⟩:=cq ok eg
   split at h
   ·rename_i l hh el eh
    obtain⟨⟨h1,h2,h3,dz⟩,go⟩:=h
    refine⟨_,go,fun η F w o ho aG =>?_⟩
    obtain⟨a1,a2,a3⟩:=wh aG
    rw[hx]at a1
    obtain⟨a,cap,ea,c1,c2,c3⟩:=a1.Bf
    have hb:=FR (P:=P) (w:=w) (mG a2).1 (mG a2).2 (mG a3).1 (mG a3).2 el eh h1 h2 h3 c1
    have hlen:((xs.drop l.toNat).take (hh.toNat-l.toNat)).length=hh.toNat-l.toNat:=by simp;omega
    refine⟨.slice (if cap=l.toNat then a else a.map (·.add (l.toNat*j'.size))) (hh.toNat-l.toNat) (cap-l.toNat),?_,?_⟩
    ·intro w'
     simp only[execOp,ho,Instr.sliceAt,Sem.run_bind,run_underlying hd,Result.andThen_ok,Option.map_none,ea,Instr.slice,hb,run_sizeOf jH,Sem.run_pure]
    ·refine .ah _ _ _ ⟨_,_,by rw[hlen],by omega,by omega,(fun he =>?_),fun aI =>?_⟩
     ·have Kl:=a1.acp ea
      split at he
      ·have:=Kl he;omega
      ·have:=Kl (Option.map_eq_none_iff.1 he);omega
     have rh:0<hh.toNat-l.toNat:=by
      rcases Nat.eq_zero_or_pos (hh.toNat-l.toNat) with h0 | h0
      ·exact absurd (List.length_eq_zero_iff.1 (by rw[hlen,h0])) aI
      ·exact h0
     obtain⟨b,o',rfl,hF,hr⟩:=c3 (fun e=>by subst e;simp at h3;omega)
     refine⟨b,o'+l.toNat*s.size,by rw[if_neg (by omega)];simp[mF,cT,dz],hF,fun m hm =>?_⟩
     rw[hlen]at hm
     obtain⟨cs',q1,q2,q3⟩:=hr (l.toNat+m) (by omega)
     refine⟨cs',q1,?_,by simpa using q3⟩
     rw[Nat.add_assoc,← Nat.add_mul]
     exact q2
   ·exact h.elim
  ·rename_i i eg hx
   obtain⟨j',_,_,jH,_,cT,_⟩:=cq ok eg
   split at h
   ·rename_i l hh el eh
    obtain⟨⟨h1,h2,h3⟩,go⟩:=h
    refine⟨_,go,fun η F w o ho aG =>?_⟩
    obtain⟨a1,a2,a3⟩:=wh aG
    rw[hx]at a1
    have ea:η x=.slice none 0 0:=by revert a1;generalize η x=u;intro a1;cases a1;rfl
    have hb:=FR (P:=P) (w:=w) (cap:=0) (mG a2).1 (mG a2).2 (mG a3).1 (mG a3).2 el eh h1 h2 h3 (Nat.le_refl _)
    have fS:l.toNat=0:=by omega
    have hh0:hh.toNat=0:=by omega
    refine⟨.slice none 0 0,?_,.af⟩
    intro w'
    simp[execOp,ho,Instr.sliceAt,Sem.run_bind,run_underlying hd,Result.andThen_ok,ea,Instr.slice,hb,run_sizeOf jH,fS,hh0]
   ·exact h.elim
  ·exact h.elim
 ·rename_i e sz oz z0 k2 m ht yH
  obtain⟨mo,rfl,hmo⟩:∃mo,mx=some mo∧ρ mo=.int k2 m:=by
   cases mx with
   | none=>cases yH
   | some mo=>exact⟨mo,rfl,Option.some.inj yH⟩
  obtain⟨_,d,_,_,hd,_,_,hf,_,_⟩:=cq ok ht
  obtain rfl:=iu hf
  split at h
  ·rename_i i b off len es k1 hh eg hx Fu
   obtain⟨eZ,rfl,hho⟩:∃eZ,hi=some eZ∧ρ eZ=.int k1 hh:=by
    cases hi with
    | none=>cases Fu
    | some eZ=>exact⟨eZ,rfl,Option.some.inj Fu⟩
   obtain⟨j',_,_,jH,_,cT,_⟩:=cq ok eg
   split at h
   ·rename_i l el
    obtain⟨⟨h1,h2,h3,h4,dz⟩,go⟩:=h
    refine⟨_,go,fun η F w o ho aG =>?_⟩
    have a1:=aG x (by simp[Op.operands])
    have a2:∀y,lo=some y→ar F w (ρ y) (η y):=fun y e=>aG y (by subst e;simp[Op.operands])
    have a3:=aG eZ (by simp[Op.operands])
    have a4:=aG mo (by simp[Op.operands])
    rw[hx]at a1
    rw[hho]at a3
    rw[hmo]at a4
    have e3:=a3.fk
    have e4:=a4.fk
    obtain⟨a,cap,ea,c,T,fz,m1,m2,m3,m4⟩:=a1.jO
    have hb:=Rz (P:=P) (w:=w) (k1:=k1) (k2:=k2) (mG a2).1 (mG a2).2 el h1 h2 h3 h4 m2
    refine⟨.slice (some (if m.toNat=l.toNat then a else a.add (l.toNat*j'.size))) (hh.toNat-l.toNat) (m.toNat-l.toNat),?_,?_⟩
    ·intro w'
     simp only[execOp,ho,Instr.sliceAt,Sem.run_bind,run_underlying hd,Result.andThen_ok,Option.map_some,ea,e3,e4,Instr.slice,hb,run_sizeOf jH,Sem.run_pure]
     split <;> rfl
    ·refine .ae _ _ _ _ _ _ ⟨c,T,fz,m1,by omega,by omega,?_⟩
     by_cases dw:m.toNat=l.toNat
     ·refine .inr ?_
      rw[if_pos dw]
      rcases m4 with ⟨rfl,_⟩ | ⟨q1,q2,q3,q4⟩
      ·exact⟨rfl,rfl,by omega,by omega⟩
      ·exact⟨q1,q2,by omega,by omega⟩
     ·refine .inl ?_
      rw[if_neg dw]
      rcases m4 with ⟨rfl,q⟩ | ⟨q1,q2,q3,q4⟩
      ·refine⟨by rw[mF,cT,dz],?_⟩
       have h6:off+l.toNat*es+(m.toNat-l.toNat)*es=off+m.toNat*es:=by
        rw[Nat.add_assoc,← Nat.add_mul];congr 2;omega
       have h7:m.toNat*es≤cap*es:=Nat.mul_le_mul_right _ (by omega)
       omega
      ·omega
   ·exact h.elim
  ·exact h.elim
 ·exact h.elim
theorem qD{η:Operand→Value}(b:Builtin)(args:Array Operand)(bJ:Array TypeId)(o:Oper)(ho:o.op=.call ⟨.builtin b,args,bJ⟩):execOp η o=builtin b bJ o.type (args.map fun | .const _=>true | _=>false) (args.map η):=by
 simp[execOp,ho,resolve,invoke]
 rfl
theorem UJ(ok:cF P TT){x:Operand}{bJ:Array TypeId}{t:TypeId}{i:TI}{ρ:Operand→AV}{K:AV→Prop}(hty:bJ.toList=[t])(ht:TT t=some i)(h:A4 i.k (ρ x) K):∃v,K v∧dV P (.call ⟨.builtin .len,#[x],bJ⟩) ρ v:=by
 obtain⟨_,d,_,_,hd,_,_,hf,_,_⟩:=cq ok ht
 obtain rfl:bJ = #[t]:=by cases bJ;simp_all
 unfold A4 at h
 have fin:∀(n:Nat),K (.int .i64 n)→(∀(F:Nat→Prop) (w:World) (v:Value),ar F w (ρ x) v→∀ty w',(Builtin.len_ #[t] ty #[v]).run P w'=.ok (.int .i64 n) w')→∃v,K v∧dV P (.call ⟨.builtin .len,#[x],#[t]⟩) ρ v:=by
  intro n hk hr
  refine⟨_,hk,kV (fun _ _=>.int _ _) fun η F w o ho aG =>?_⟩
  have a1:=aG x (by simp[Op.operands,Call.operands])
  rw[qD _ _ _ o ho]
  simp[builtin,hr F w _ a1]
 split at h
 ·rename_i e s l hk hx
  rw[hk]at hf;obtain rfl:=iu hf
  refine fin _ h fun F w v hv ty w' =>?_
  rw[hx]at hv
  obtain⟨a,c,rfl,_⟩:=hv.Bf
  simp[Builtin.len_,run_underlying hd,goInt]
 ·rename_i e b off len es hk hx
  rw[hk]at hf;obtain rfl:=iu hf
  refine fin _ h fun F w v hv ty w' =>?_
  rw[hx]at hv
  obtain⟨a,c,rfl,_⟩:=hv.jO
  simp[Builtin.len_,run_underlying hd,goInt]
 ·rename_i e hk hx
  rw[hk]at hf;obtain rfl:=iu hf
  refine fin 0 h fun F w v hv ty w' =>?_
  rw[hx]at hv
  cases hv
  simp[Builtin.len_,run_underlying hd,goInt]
 ·rename_i e hk hx
  rw[hk]at hf;obtain rfl:=iu hf
  refine fin 0 h fun F w v hv ty w' =>?_
  rw[hx]at hv
  cases hv
  simp[Builtin.len_,run_underlying hd,goInt]
 ·rename_i e hk hx
  rw[hk]at hf;obtain rfl:=iu hf
  refine fin 0 h fun F w v hv ty w' =>?_
  rw[hx]at hv
  cases hv
  simp[Builtin.len_,run_underlying hd,goInt]
 ·exact h.elim
theorem Ve(ok:cF P TT){x:Operand}{bJ:Array TypeId}{t:TypeId}{i:TI}{ρ:Operand→AV}{K:AV→Prop}(hty:bJ.toList=[t])(ht:TT t=some i)(h:Bh i.k (ρ x) K):∃v,K v∧dV P (.call ⟨.builtin .cap,#[x],bJ⟩) ρ v:=by
 obtain⟨_,d,_,_,hd,_,_,hf,_,_⟩:=cq ok ht
 obtain rfl:bJ = #[t]:=by cases bJ;simp_all
 unfold Bh at h
 have fin:K (.int .i64 0)→(∀(F:Nat→Prop) (w:World) (v:Value),ar F w (ρ x) v→∀ty w',(Builtin.cap_ #[t] ty #[v]).run P w'=.ok (.int .i64 0) w')→∃v,K v∧dV P (.call ⟨.builtin .cap,#[x],#[t]⟩) ρ v:=by
  intro hk hr
  refine⟨_,hk,kV (fun _ _=>.int _ _) fun η F w o ho aG =>?_⟩
  have a1:=aG x (by simp[Op.operands,Call.operands])
  rw[qD _ _ _ o ho]
  simp[builtin,hr F w _ a1]
 split at h
 ·rename_i e hk hx
  rw[hk]at hf;obtain rfl:=iu hf
  refine fin h fun F w v hv ty w' =>?_
  rw[hx]at hv
  cases hv
  simp[Builtin.cap_,run_underlying hd,goInt]
 ·rename_i e hk hx
  rw[hk]at hf;obtain rfl:=iu hf
  refine fin h fun F w v hv ty w' =>?_
  rw[hx]at hv
  cases hv
  simp[Builtin.cap_,run_underlying hd,goInt]
 ·exact h.elim
theorem UC{x y:Operand}{bJ:Array TypeId}{ρ:Operand→AV}{K:AV→Prop}(h:A0 [ρ x,ρ y] K):∃v,K v∧dV P (.call ⟨.builtin .min,#[x,y],bJ⟩) ρ v:=by
 unfold A0 at h
 split at h
 ·rename_i k a k' b e
  simp only[List.cons.injEq,and_true]at e
  split at h
  ·refine⟨_,h,kV (fun _ _=>.int _ _) fun η F w o ho aG =>?_⟩
   have a1:=aG x (by simp[Op.operands,Call.operands]);rw[e.1]at a1
   have a2:=aG y (by simp[Op.operands,Call.operands]);rw[e.2]at a2
   rw[qD _ _ _ o ho]
   simp[builtin,Builtin.min_,Builtin.min2,a1.fk,a2.fk]
  ·exact h.elim
 ·exact h.elim
theorem UF{x y:Operand}{bJ:Array TypeId}{ρ:Operand→AV}{K:AV→Prop}(h:A1 [ρ x,ρ y] K):∃v,K v∧dV P (.call ⟨.builtin .max,#[x,y],bJ⟩) ρ v:=by
 unfold A1 at h
 split at h
 ·rename_i k a k' b e
  simp only[List.cons.injEq,and_true]at e
  split at h
  ·refine⟨_,h,kV (fun _ _=>.int _ _) fun η F w o ho aG =>?_⟩
   have a1:=aG x (by simp[Op.operands,Call.operands]);rw[e.1]at a1
   have a2:=aG y (by simp[Op.operands,Call.operands]);rw[e.2]at a2
   rw[qD _ _ _ o ho]
   simp[builtin,Builtin.max_,Builtin.max2,a1.fk,a2.fk]
  ·exact h.elim
 ·exact h.elim
theorem Ts{x y:Operand}{bJ:Array TypeId}{ρ:Operand→AV}{K:AV→Prop}(h:AI (ρ x) (ρ y) K):∃v,K v∧dV P (.call ⟨.builtin .complex,#[x,y],bJ⟩) ρ v:=by
 unfold AI at h
 split at h
 ·rename_i a b hx hy
  refine⟨_,h,fun η F w o ho aG =>?_⟩
  have a1:=aG x (by simp[Op.operands,Call.operands]);rw[hx]at a1
  have a2:=aG y (by simp[Op.operands,Call.operands]);rw[hy]at a2
  obtain⟨r,e1,h1⟩:=a1.EE
  obtain⟨q,e2,h2⟩:=a2.EE
  refine⟨.complex .f64 r q,fun w' =>?_,.eM _ _ _ _ h1 h2⟩
  rw[qD _ _ _ o ho]
  rw[show Array.map η #[x,y] = #[η x,η y] by simp,e1,e2];rfl
 ·exact h.elim
theorem SU{x:Operand}{bJ:Array TypeId}{ρ:Operand→AV}{K:AV→Prop}(h:As (ρ x) K):∃v,K v∧dV P (.call ⟨.builtin .real,#[x],bJ⟩) ρ v:=by
 unfold As at h
 split at h
 ·rename_i a b hx
  refine⟨_,h,fun η F w o ho aG =>?_⟩
  have a1:=aG x (by simp[Op.operands,Call.operands]);rw[hx]at a1
  obtain⟨r,q,e1,h1,h2⟩:=a1.EJ
  refine⟨.float .f64 r,fun w' =>?_,.e8 _ _ h1⟩
  rw[qD _ _ _ o ho]
  rw[show Array.map η #[x] = #[η x] by simp,e1];rfl
 ·exact h.elim
theorem Td{x:Operand}{bJ:Array TypeId}{ρ:Operand→AV}{K:AV→Prop}(h:Ay (ρ x) K):∃v,K v∧dV P (.call ⟨.builtin .imag,#[x],bJ⟩) ρ v:=by
 unfold Ay at h
 split at h
 ·rename_i a b hx
  refine⟨_,h,fun η F w o ho aG =>?_⟩
  have a1:=aG x (by simp[Op.operands,Call.operands]);rw[hx]at a1
  obtain⟨r,q,e1,h1,h2⟩:=a1.EJ
  refine⟨.float .f64 q,fun w' =>?_,.e8 _ _ h2⟩
  rw[qD _ _ _ o ho]
  rw[show Array.map η #[x] = #[η x] by simp,e1];rfl
 ·exact h.elim
theorem Holds.Et{F:Nat→Prop}{w:World}{b:Nat}{x:AV}{o:Obj}(h:Holds F w b [x])(hx:ud x=some o):¬F b∧w.heap[b]?=some o:=by
 obtain⟨hF,⟨c,T,h1,h2,h3⟩ | ⟨x',o',h1,h2,h3⟩ | ⟨_,_,h1,_⟩⟩:=h
 ·have:=(h3 0 _ rfl).1;rw[CC hx]at this;cases this
 ·cases h1;rw[hx]at h3;cases h3;exact⟨hF,h2⟩
 ·cases h1;cases hx
theorem Holds.A2{F:Nat→Prop}{w:World}{b:Nat}{l:List (Int×Int)}(h:Holds F w b [.l9 l]):¬F b∧w.heap[b]?=some (.map (eW 0 l).toArray l.length):=h.Et rfl
theorem Holds.Qe{F:Nat→Prop}{w:World}{b:Nat}{L:Loop}{t:Nat→AV}(h:Holds F w b [.kA L t]):¬F b∧w.heap[b]?=some (.loop L)∧∀i,ar F w (t i) (L.tmps.getD i undef):=by
 obtain⟨hF,⟨c,T,h1,h2,h3⟩ | ⟨x,o,h1,h2,h3⟩ | ⟨_,_,h1,h2⟩⟩:=h
 ·have:=(h3 0 _ rfl).1;cases this
 ·cases h1;cases h3
 ·cases h1;exact⟨hF,h2⟩
theorem ar.QK{F:Nat→Prop}{w:World}{b:Nat}{v:Value}(h:ar F w (.lI b) v):v=.pointer (some ⟨b,0,none⟩):=by cases h;rfl
theorem ar.Ip{F:Nat→Prop}{w:World}{b:Nat}{v:Value}(h:ar F w (.lA b) v):v=.map (some b):=by cases h;rfl
theorem GA(ok:cF P TT){t:TypeId}{z:Int}(h:yf TT t=some z):∃k e,P.underlying t=some (.map k e)∧P.underlying k=some (.int .i64)∧∀w,(zeroValue e).run P w=.ok (.int .i64 z) w:=by
 unfold yf at h
 split at h
 ·rename_i k e s1 b1 z1 ht
  split at h
  ·rename_i s2 b2 z2 s3 b3 zz hk he
   cases h
   obtain⟨_,d1,_,_,yP,_,_,gq,_,_⟩:=cq ok ht
   obtain⟨_,d2,_,_,ou,_,_,sV,_,_⟩:=cq ok hk
   obtain⟨j3,d3,zv,hj3,hd3,_,_,hf3,ki,fQ⟩:=cq ok he
   have:=WR gq;subst this
   have:=fits_int sV;subst this
   have Jy:zv=.int .i64 z:=by
    obtain⟨j2,z2',k1,k2,k3⟩:=Od ok he rfl
    rw[hj3]at k1;cases k1
    rw[ki]at k2;cases k2
    cases zv with
    | agg cs=>cases k3
    | int q n =>
     simp[Value.cells,nI,AV.isVal]at fQ
     obtain⟨rfl,rfl⟩:=fQ
     rfl
    | _=>exact absurd fQ (by simp[Value.cells,nI,AV.isVal])
   exact⟨k,e,yP,ou,fun w=>by simp[zeroValue,typeInfo,hj3,ki,Jy]⟩
  ·cases h
 ·cases h
theorem RH(ok:cF P TT){t:TypeId}{m k:Operand}{c:Bool}{ρ:Operand→AV}{σ:Hp}{K:AV→Prop}(h:zZ TT t (bc (ρ m)) (bc (ρ k)) c σ K):∃v,K v∧Bl P (.lookup t m k c) ρ σ v:=by
 unfold zZ at h
 split at h
 ·rename_i z n hz hk
  obtain⟨kt,et,h1,h2,h3⟩:=GA ok hz
  obtain⟨j,b,l,hm,hj,go⟩:=h
  have hs:∀(η:Operand→Value) (F:Nat→Prop) (w:World) (o:Oper),o.op=.lookup t m k c→(∀x∈(Op.lookup t m k c).operands.toList,ar F w (ρ x) (η x))→aM F w σ→(execOp η o).run P w=.ok (.value (if c then .tuple #[.int .i64 ((getM l n).getD z),.bool (getM l n).isSome] else .int .i64 ((getM l n).getD z))) w:=fun η F w o ho hx ay=>by
   have a1:=(hx m (by simp[Op.operands])).bc
   rw[hm]at a1
   have a2:=(hx k (by simp[Op.operands])).bc
   rw[hk]at a2
   have e1:η m=.map (some b):=a1.Ip
   have e2:η k=.int .i64 n:=a2.fk
   obtain⟨_,hb⟩:=(ay.holds _ (List.mem_of_getElem? hj)).A2
   simp[execOp,ho,e1,e2,R2 h1 h2 (h3 w) hb n c]
  cases c with
  | true =>
   exact⟨_,go,fun η F w o ho hx ay=>⟨_,hs η F w o ho hx ay,.tup _ _ rfl fun i y hy=>by
    rcases i with _ | _ | i
    ·simp at hy;subst hy;exact .int _ _
    ·simp at hy;subst hy;exact .bool _
    ·simp at hy⟩⟩
  | false=>exact⟨_,go,fun η F w o ho hx ay=>⟨_,hs η F w o ho hx ay,.int _ _⟩⟩
 ·exact h.elim
def H6:Op→Bool
 | .load _ _ | .lookup _ _ _ _=>false
 | _=>true
theorem Mk(ok:cF P TT){op:Op}{ρ:Operand→AV}{σ:Hp}{K:AV→Prop}(hb:H6 op=true)(h:eB P TT op ρ σ K):∃v,K v∧dV P op ρ v:=by
 unfold eB at h
 split at h
 ·rw[vh]at h;exact⟨_,h,Ua⟩
 ·rw[vh]at h;exact⟨_,h,RZ⟩
 ·split at h
  ·rename_i x hx
   rw[vh,vh]at h
   refine⟨_,?_,T9 hx⟩
   cases x <;> exact h
  ·exact h.elim
 ·split at h
  ·rename_i v hv
   exact⟨v,h,Sw ok hv⟩
  ·exact h.elim
 ·split at h
  ·cases hb
  ·exact h.elim
 ·rename_i x
  split at h
  ·rename_i b o' hx
   refine⟨_,h,D1 rfl fun η F w o ho aG =>?_⟩
   have h1:=aG x (by simp[Op.operands]);rw[hx]at h1
   exact⟨h1.xd,fun _=>by simp[execOp,ho,h1.vX]⟩
  ·rename_i cs hx
   refine⟨_,h,fun η F w o ho aG =>?_⟩
   have h1:=aG x (by simp[Op.operands]);rw[hx]at h1
   obtain⟨b,o',e,hF,cW⟩:=h1.vv
   exact⟨_,by simp[execOp,ho,e],cW.eQ hF⟩
  ·rename_i f a c hx
   refine⟨_,h,fun η F w o ho aG =>?_⟩
   have h1:=aG x (by simp[Op.operands]);rw[hx]at h1
   cases hv:η x with
   | func f' v1 v2 =>
    rw[hv]at h1
    have:f'=.func f:=by cases h1;rfl
    subst this
    exact⟨_,by simp[execOp,ho,hv],h1⟩
   | _=>rw[hv]at h1;cases h1
  ·rename_i m t b o' c hx
   obtain⟨ha,h⟩:=h
   refine⟨_,h,fun η F w o ho aG =>?_⟩
   have h1:=aG x (by simp[Op.operands]);rw[hx]at h1
   cases hv:η x with
   | func f' v1 v2 =>
    rw[hv]at h1
    have h2:=h1
    obtain⟨rfl,hs,hr⟩:f'=.method m∧1=v1.size∧ar F w (.iface t (.ptr b o')) (v1.getD 0 undef):=by
     cases h1 with | fn _ _ _ _ _ dX fq h1 h2=>exact⟨rfl,dX,h1 0 _ rfl⟩
    have h0:v1[0]?=some (.iface t (.pointer (some ⟨b,o',none⟩))):=by
     have ab:0<v1.size:=by omega
     have e1:v1.getD 0 undef=v1[0]:=by simp[Array.getD,ab]
     rw[e1]at hr
     rw[Array.getElem?_eq_getElem ab]
     revert hr
     generalize v1[0]=u
     intro hr
     cases hr with
     | iface _ _ _ h=>cases h;rfl
    refine⟨.func (.method m) v1 v2,fun w' =>?_,h2⟩
    have hn:=ha ⟨b,o',none⟩ w'
    simp only[execOp,ho,hv,h0,Sem.run_bind,run_program,Result.andThen_ok,hn]
    rfl
   | _=>rw[hv]at h1;cases h1
  ·rename_i t v hx
   refine⟨_,h,fun η F w o ho aG =>?_⟩
   have h1:=aG x (by simp[Op.operands]);rw[hx]at h1
   cases hv:η x with
   | iface t' v' =>
    rw[hv]at h1
    exact⟨_,by simp[execOp,ho,hv],h1⟩
   | _=>rw[hv]at h1;cases h1
  ·exact h.elim
 ·exact yW (Ty ok (ρ:=fun x=>bc (ρ x)) h)
 ·exact VG h
 ·exact Tv ok h
 ·rename_i t x
  split at h
  ·exact h.elim
  ·rename_i i hn hi
   exact⟨_,h,Sk ok hi (fun e=>hn i.size i.bytes i.zero (by rw[← e]))⟩
  ·exact h.elim
 ·exact⟨_,h,Ro⟩
 ·exact yW (RX ok (ρ:=fun x=>bc (ρ x)) h)
 ·exact Rm ok h
 ·exact Sm ok h
 ·exact yW (Rj ok (ρ:=fun x=>bc (ρ x)) h)
 ·rename_i x tx t ok2
  split at h
  ·rename_i e s b t' v ht hx
   exact KS ok ht rfl (.inl ⟨t',v,hx,h⟩)
  ·rename_i e s b ht hx
   exact KS ok ht rfl (.inr ⟨hx,h⟩)
  ·exact h.elim
 ·cases hb
 ·split at h
  ·rename_i vs hx
   split at h
   ·rename_i v hv;exact⟨v,h,Rw hx hv⟩
   ·exact h.elim
  ·exact h.elim
 ·rename_i args bJ
  split at h
  ·rename_i x t hx ht
   obtain rfl:args = #[x]:=by cases args;simp_all
   split at h
   ·rename_i i hi;exact yW (UJ ok ht hi (ρ:=fun x=>bc (ρ x)) h)
   ·exact h.elim
  ·exact h.elim
 ·rename_i args bJ
  split at h
  ·rename_i x y hx
   obtain rfl:args = #[x,y]:=by cases args;simp_all
   exact UC h
  ·exact h.elim
 ·rename_i args bJ
  split at h
  ·rename_i x y hx
   obtain rfl:args = #[x,y]:=by cases args;simp_all
   exact UF h
  ·exact h.elim
 ·rename_i args bJ
  split at h
  ·rename_i x y hx
   obtain rfl:args = #[x,y]:=by cases args;simp_all
   exact Ts h
  ·exact h.elim
 ·rename_i args bJ
  split at h
  ·rename_i x hx
   obtain rfl:args = #[x]:=by cases args;simp_all
   exact SU h
  ·exact h.elim
 ·rename_i args bJ
  split at h
  ·rename_i x hx
   obtain rfl:args = #[x]:=by cases args;simp_all
   exact Td h
  ·exact h.elim
 ·rename_i args bJ
  split at h
  ·rename_i x t hx ht
   obtain rfl:args = #[x]:=by cases args;simp_all
   split at h
   ·rename_i i hi;exact yW (Ve ok ht hi (ρ:=fun x=>bc (ρ x)) h)
   ·exact h.elim
  ·exact h.elim
 ·exact h.elim
theorem CB(ok:cF P TT){op:Op}{ρ:Operand→AV}{σ:Hp}{K:AV→Prop}(h:eB P TT op ρ σ K):∃v,K v∧Bl P op ρ σ v:=by
 cases hb:H6 op with
 | true =>
  obtain⟨v,h1,h2⟩:=Mk ok hb h
  exact⟨v,h1,h2.abH σ⟩
 | false =>
  cases op with
  | load t a =>
   have h:(match TT t with | some i=>nO i (ρ a) σ K | none=>False):=h
   split at h
   ·rename_i i hi;exact S8 ok hi h
   ·exact h.elim
  | lookup t m k c=>exact RH ok h
  | _=>cases hb
end
end Go.Proofs.YtnpidbjdilnhlaaGreat
