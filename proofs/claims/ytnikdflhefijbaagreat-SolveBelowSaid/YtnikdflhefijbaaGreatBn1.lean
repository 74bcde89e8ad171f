import Derived.Below
import Derived.BigQuiet
import Derived.Carry
import Derived.ChangeOld
import Derived.Deep.OwnRows
import Derived.Deep.QuietTactic
import Derived.Deep.Slices
import Derived.Handy
import Derived.Maps.AppendAt
import Derived.OpenShut
import Derived.ProofKit
import Derived.ShutString
import Derived.Stop.IfaceNil
import Derived.Test.YtnikdflhefijbaaGreatRows
import Derived.WalkKit
import Derived.WalkLawsBesides
import Derived.WalkSpells
namespace Go.Proofs.YtnikdflhefijbaaGreat
open Go.RowKit
abbrev aW:= @List.getD_eq_getElem?_getD
abbrev bJ:= @List.getElem?_eq_getElem
abbrev cf:= @List.getElem?_eq_some_iff
abbrev bh:= @List.mem_singleton
abbrev bQ:= @List.length_append
abbrev cq:= @List.mem_of_getElem?
abbrev ah:= @if_neg
abbrev ai:= @if_pos
abbrev bM:= @Int.toNat_natCast
abbrev aV:= @decide_eq_true
abbrev fp:= @List.take_succ_eq_append_getElem
abbrev bL:= @Bool.and_eq_true
abbrev cH:= @Nat.le_of_ble_eq_true
abbrev cm:= @List.mem_cons_self
abbrev bO:= @List.mem_append
abbrev bR:= @decide_eq_false
abbrev bX:= @List.getElem_mem
abbrev eI:= @List.take_of_length_le
abbrev cY:= @List.mem_cons_of_mem
abbrev aU:= @Nat.le_refl
abbrev cd:= @List.length_map
abbrev bA:= @Nat.zero_le
abbrev cM:= @List.length_set
abbrev cS:= @List.map_append
abbrev jP:= @List.length_eq_zero_iff
abbrev dM:= @List.append_assoc
abbrev jy:= @Array.getD_eq_getD_getElem?
abbrev iJ:= @List.getElem?_append_right
abbrev gb:= @List.length_replicate
abbrev eR:= @List.getElem?_set
abbrev gD:= @List.mem_append_left
abbrev fo:= @List.getElem?_map
abbrev fm:= @of_decide_eq_true
abbrev kf:= @List.getElem?_append_left
abbrev fk:= @List.all_eq_true
abbrev fj:= @List.take_length
abbrev jx:= @Nat.eq_of_beq_eq_true
abbrev dX:= @List.mem_map
abbrev jv:= @List.mem_append_right
abbrev eG:= @List.mem_cons
abbrev eF:= @Nat.zero_add
abbrev gR:= @List.drop_zero
abbrev lP:= @Int.toNat_of_nonneg
abbrev gw:= @List.mem_range
abbrev fD:= @Nat.le_trans
abbrev ie:= @List.length_cons
abbrev mg:= @Int.eq_ofNat_of_zero_le
abbrev eH:= @Nat.mul_one
abbrev lO:= @Nat.mul_le_mul_right
abbrev lN:= @Bool.false_eq_true
abbrev lf:= @Bool.not_eq_true'
abbrev qD:= @List.mem_or_eq_of_mem_set
abbrev mM:= @List.length_pos_iff
abbrev oP:= @List.nodup_append
abbrev sG:= @Int.tmod_eq_emod_of_nonneg
abbrev mf:= @List.any_eq_true
abbrev mc:= @List.nodup_cons
abbrev mL:= @List.append_nil
abbrev vN:= @List.getElem?_replicate
abbrev rF:= @List.mem_iff_getElem?
abbrev sF:= @List.length_singleton
abbrev tY:= @List.getElem?_eq_none
abbrev oO:= @List.length_range
abbrev pH:= @of_decide_eq_false
abbrev nF:= @List.perm_middle
abbrev nE:= @Nat.not_lt_zero
abbrev nD:= @List.mem_filter
abbrev oN:= @List.mem_flatten
abbrev qC:= @List.getElem?_take
abbrev qB:= @List.size_toArray
abbrev ke:= @Int.le_refl
abbrev rE:= @Nat.lt_of_lt_of_le
abbrev oM:= @List.map_set
abbrev EP:= @List.length_filter_le
abbrev sE:= @List.length_reverse
abbrev xF:= @Array.getElem?_eq_getElem
abbrev tX:= @Nat.pow_le_pow_right
abbrev tW:= @List.mem_iff_getElem
abbrev vM:= @Nat.testBit_lt_two_pow
abbrev tV:= @List.range_succ
abbrev tU:= @List.getElem?_range
abbrev qA:= @Bool.or_eq_true
abbrev oL:= @List.map_cons
abbrev oK:= @Bool.false_or
abbrev tT:= @Nat.eq_zero_or_pos
abbrev xE:= @Option.map_eq_some_iff
abbrev zl:= @List.flatMap_append
abbrev pG:= @Nat.sub_self
abbrev zk:= @List.getElem?_toArray
abbrev tS:= @List.foldl_append
abbrev Bt:= @List.eq_of_mem_replicate
abbrev qz:= @Nat.succ_mul
abbrev tR:= @Nat.mod_eq_of_lt
abbrev EO:= @List.ext_getElem
abbrev Bs:= @Int.tdiv_eq_ediv_of_nonneg
abbrev EN:= @List.length_pos_of_mem
abbrev nA:= @Nat.mod_lt
abbrev xD:= @List.map_congr_left
abbrev Br:= @Array.toList_append
abbrev Oy:= @Nat.ble_eq_true_of_le
abbrev Bq:= @List.take_append_drop
abbrev tQ:= @Int.natCast_add
abbrev zj:= @List.getElem?_drop
abbrev xC:= @List.length_take
abbrev sD:= @Nat.pow_zero
abbrev tP:= @Nat.mul_le_mul
abbrev zi:= @List.flatMap_cons
abbrev qy:= @Nat.add_mul
abbrev vL:= @List.nil_append
abbrev EM:= @Array.getElem?_eq_some_iff
abbrev Ox:= @Array.getElem?_append_left
abbrev xB:= @List.mem_reverse
abbrev Bp:= @List.filter_cons
abbrev zh:= @Nat.lt_of_le_of_lt
abbrev Jj:= @List.set_append_right
abbrev Bo:= @List.filter_append
abbrev tO:= @Bool.true_and
abbrev Bn:= @Array.getElem?_toList
abbrev rD:= @Nat.pow_add
abbrev Bm:= @Nat.eq_of_testBit_eq
abbrev zg:= @List.ext_getElem?
abbrev Ji:= @Array.getElem?_setIfInBounds_ne
abbrev tN:= @Nat.lt_or_ge
abbrev Jh:= @List.eq_nil_iff_forall_not_mem
abbrev Ow:= @List.replicate_succ
abbrev gm5:= @List.flatten_append
abbrev Jg:= @List.take_append_of_le_length
abbrev Jf:= @List.getElem_replicate
abbrev EL:= @Array.size_eq_zero_iff
abbrev Bl:= @Nat.lt_or_eq_of_le
abbrev Bk:= @List.pairwise_cons
abbrev Bj:= @Bool.false_ne_true
abbrev Je:= @Nat.testBit_two_pow_sub_one
abbrev vK:= @Nat.add_zero
abbrev EK:= @List.eq_nil_or_concat
abbrev zf:= @List.all_append
abbrev EJ:= @Nat.add_assoc
abbrev Bi:= @List.pairwise_map
abbrev Bh:= @List.flatten_cons
abbrev Bg:= @List.any_eq_false
abbrev Bf:= @Bool.eq_false_iff
abbrev EH:= @List.getElem?_of_mem
abbrev go2:= @List.drop_eq_getElem_cons
abbrev Be:= @List.not_mem_nil
abbrev Ov:= @Array.length_toList
abbrev xA:= @Nat.zero_mul
abbrev xz:= @Nat.beq_refl
abbrev Bd:= @Nat.two_pow_pos
abbrev Jd:= @Nat.testBit_mod_two_pow
abbrev Jc:= @Nat.add_sub_cancel_left
abbrev EG:= @Int.natCast_nonneg
abbrev EF:= @Int.emod_lt_of_pos
abbrev Jb:= @List.drop_of_length_le
abbrev EE:= @Nat.le_of_lt_succ
abbrev Ou:= @List.nodup_nil
abbrev Ot:= @Nat.and_two_pow_sub_one_eq_mod
abbrev Oq:= @List.drop_append_of_le_length
abbrev ED:= @List.cons_append
abbrev Ja:= @List.pairwise_append
abbrev Bc:= @Nat.mul_assoc
abbrev Oo:= @List.mem_zipIdx_iff_getElem?
abbrev On:= @Nat.two_pow_add_eq_or_of_lt
abbrev Om:= @Nat.testBit_two_pow_mul_add
abbrev I9:= @Nat.pos_iff_ne_zero
abbrev EC:= @Nat.log2_eq_iff
abbrev EB:= @Nat.and_le_left
abbrev I8:= @List.length_zipWith
abbrev EA:= @Int.natCast_mul
abbrev Ez:= @Int.emod_nonneg
abbrev Bb:= @Nat.mul_comm
abbrev Ba:= @Nat.le_of_eq
abbrev I7:= @List.singleton_inj
abbrev I6:= @Int.tmod_lt_of_pos
abbrev I5:= @Int.natAbs_natCast
abbrev I4:= @Bool.not_eq_false'
abbrev Ol:= @List.pairwise_iff_getElem
abbrev Ey:= @List.count_nil
abbrev Oj:= @Int.mul_neg_of_neg_of_pos
abbrev I3:= @Nat.or_lt_two_pow
abbrev I2:= @List.getElem_take
abbrev gs0:= @List.filter_cons_of_neg
abbrev Ew:= @Bool.not_true
abbrev I1:= @Nat.le_add_right
abbrev I0:= @List.getElem_set
abbrev IZ:= @List.getElem_map
abbrev IY:= @List.countP_cons
abbrev IX:= @Nat.testBit_and
abbrev Oi:= @Nat.min_eq_left
abbrev Ev:= @Nat.lt_trans
abbrev Oh:= @List.perm_append_comm
abbrev IW:= @List.map_map
abbrev IV:= @List.foldl_cons
abbrev gt2:= @List.filter_nil
abbrev gt3:= @List.any_append
abbrev IU:= @Int.natAbs_zero
abbrev Eu:= @Int.lt_or_le
abbrev gt6:= @Bool.beq_eq_decide_eq
abbrev Og:= @List.mem_erase_of_ne
abbrev Of:= @List.getElem_zipWith
abbrev Oe:= @List.eraseIdx_set_eq
abbrev IT:= @Nat.testBit_or
abbrev IS:= @Int.natAbs_mul
abbrev IQ:= @Bool.false_and
abbrev IP:= @Bool.and_false
abbrev Od:= @Nat.testBit_two_pow
abbrev Oc:= @List.mem_map_of_mem
abbrev Ob:= @List.map_eq_flatMap
abbrev gu7:= @List.filter_eq_self
abbrev IN:= @Nat.lt_irrefl
abbrev IM:= @List.sum_cons
abbrev Oa:= @List.mem_replicate
abbrev N9:= @List.getElem_range
abbrev IL:= @Bool.and_true
theorem s8{w:World}{k:Nat}{o:Obj}(h:w.heap[k]?=some o):k<w.heap.size:=(EM.1 h).1
theorem Lh{w:World}{k i:Nat}{c:Array Value}{t:TypeId}{fz:Nat×Nat}(h:w.heap[k]?=some (.cells c t fz)):w.cell? ⟨k,i,none⟩=c[i]?:=by simp[World.cell?,h]
theorem wo(w:World)(o:Obj):(w.alloc o).heap[w.heap.size]?=some o:=heap_alloc_new w o
end Go.Proofs.YtnikdflhefijbaaGreat
namespace Go.Proofs.YtnikdflhefijbaaGreat
open Go.RowKit Go.ChangeShapes Go.WideShapes Go.ChangeAt Go.Deep
inductive Sh where
 |int (k:IntKind)
 |bool
 |str
 |slice (e:Sh)
 |nil
 |field (f r:Sh)
def Sh.size:Sh→Nat
 |.int _=>1
 |.bool=>1
 |.str=>1
 |.slice _=>1
 |.nil=>0
 |.field f r=>f.size+r.size
def Sh.T:Sh→Type
 |.int _=>Int
 |.bool=>Bool
 |.str=>ByteArray
 |.slice e=>List e.T
 |.nil=>Unit
 |.field f r=>f.T×r.T
def Sh.MO:(s:Sh)→s.T
 |.int _=>(0:Int)
 |.bool=>false
 |.str=>ByteArray.empty
 |.slice _=>[]
 |.nil=>()
 |.field f r=>(f.MO,r.MO)
def vc(w:World)(b o:Nat)(cs:List Value):Prop:=∀j u,cs[j]?=some u→w.cell? ⟨b,o+j,none⟩=some u
def Reads(w:World):(s:Sh)→List Value→s.T→Prop
 |.int k,cs,(n:Int)=>cs=[.int k n]∧(Lit.int k n).wf=true
 |.bool,cs,(b:Bool)=>cs=[.bool b]
 |.str,cs,(s:ByteArray)=>cs=[.string s]∧s.size≤maxLen
 |.slice e,cs,(l:List e.T)=>∃(a:Option Addr) (c:Nat),cs=[.slice a l.length c]∧l.length≤c∧c≤maxLen∧(a=none→c=0)∧
   (l≠[]→∃b o,a=some ⟨b,o,none⟩∧∀i,(h:i<l.length)→∃cs',cs'.length=e.size∧vc w b (o+i*e.size) cs'∧Reads w e cs' l[i])
 |.nil,cs,_=>cs=[]
 |.field f r,cs,(d:f.T×r.T)=>∃c1 c2,cs=c1++c2∧c1.length=f.size∧Reads w f c1 d.1∧Reads w r c2 d.2
def Sh.fit(P:Program):Sh→Sum TypeId (List Field×Nat)→Bool
 |.int k,.inl t=>match P.underlying t with | some (.int k')=>decide (k=k') | _=>false
 |.bool,.inl t=>match P.underlying t with | some .bool=>true | _=>false
 |.str,.inl t=>match P.underlying t with | some .string=>true | _=>false
 |.slice e,.inl t=>match P.underlying t with | some (.slice e')=>e.fit P (.inl e')&&decide (P.cellsOf e'=e.size)&&decide (0<e.size) | _=>false
 |.nil,.inr ([],_)=>true
 |.nil,.inl t=>match P.underlying t with | some (.struct fs)=>fs.toList.isEmpty&&decide (P.cellsOf t=0) | _=>false
 |.field f r,.inr (f0::fs,off)=>decide (f0.offset=off)&&decide (P.cellsOf f0.type=f.size)&&f.fit P (.inl f0.type)&&r.fit P (.inr (fs,off+f.size))
 |.field f r,.inl t=>match P.underlying t with
  |some (.struct fs)=>match fs.toList with
   |f0::ER=>decide (P.cellsOf t=f.size+r.size)&&(decide (f0.offset=0)&&decide (P.cellsOf f0.type=f.size)&&f.fit P (.inl f0.type)&&r.fit P (.inr (ER,f.size)))
   | []=>false
  |_=>false
 |_,_=>false
theorem yQ{a b:Bool}(h:(a&&b)=true):a=true∧b=true:=by simpa using h
theorem vc.spot{w:World}{a:Addr}{n:Nat}{cs:List Value}(hn:0<n)(hl:cs.length=n)(h:∀i,i<n→w.cell? (a.add i)=cs[i]?):a.spot=none:=by
 have h0:=h 0 hn
 rw[bJ (by omega)]at h0
 exact World.cell?_spot h0
theorem Z9{H:Type}{enc:TypeId×Value→H}{P:Program}{w:World}{base:Nat}{spare:Nat→Bool}{held:Bool}(s:Sh):
  (∀(t:TypeId) (fuel:Nat) (cs:List Value) (x:DataW H×List MemPlace),s.fit P (.inl t)=true→DataW.trod enc P w base spare held fuel t cs=some x→cs.length=s.size∧∃d,Reads w s cs d)∧
  (∀(fs:List Field) (off n:Nat) (cs:List Value),s.fit P (.inr (fs,off))=true→cs.length=off+s.size→
   (∀(i:Nat) (f:Field),fs[i]?=some f→∃x,DataW.trod enc P w base spare held n f.type ((cs.drop f.offset).take (P.cellsOf f.type))=some x)→∃d,Reads w s (cs.drop off) d):=by
 induction s with
 |int k=>
  refine⟨fun t fuel cs x hf h=>?_,fun fs off n cs hf=>by simp[Sh.fit]at hf⟩
  unfold Sh.fit at hf
  split at hf
  ·rename_i k' hk
   have:=fm hf
   subst this
   obtain⟨n,rfl,_,hw⟩:=DataW.trod_int hk h
   exact⟨rfl,n,rfl,hw⟩
  ·cases hf
 |bool=>
  refine⟨fun t fuel cs x hf h=>?_,fun fs off n cs hf=>by simp[Sh.fit]at hf⟩
  unfold Sh.fit at hf
  split at hf
  ·rename_i hk
   obtain⟨b,rfl,_⟩:=DataW.trod_bool hk h
   exact⟨rfl,b,rfl⟩
  ·cases hf
 |str=>
  refine⟨fun t fuel cs x hf h=>?_,fun fs off n cs hf=>by simp[Sh.fit]at hf⟩
  unfold Sh.fit at hf
  split at hf
  ·rename_i hk
   obtain⟨b,rfl,_,hb⟩:=DataW.trod_string hk h
   exact⟨rfl,b,rfl,hb⟩
  ·cases hf
 |slice e ih=>
  refine⟨fun t fuel cs x hf h=>?_,fun fs off n cs hf=>by simp[Sh.fit]at hf⟩
  unfold Sh.fit at hf
  split at hf
  ·rename_i e' hk
   obtain⟨iH,h0⟩:=yQ hf
   obtain⟨vC,ei⟩:=yQ iH
   have ei:=fm ei
   have h0:=fm h0
   rcases open_slice hk h with ⟨rfl,_⟩ | ⟨a,len,cap,m,n,D,Pl,rfl,hb,hl,hm,hmm,_,hi⟩
   ·exact⟨rfl,[],none,0,rfl,Nat.le_refl _,by simp,fun _=>rfl,fun aP=>absurd rfl aP⟩
   ·have hlm:len≤m:=by rw[hmm];split <;> omega
    have hel:∀i,i<len→∃(y:List Value×e.T),y.1.length=e.size∧w.cells? base (a.add (i*e.size)) e.size=some y.1∧Reads w e y.1 y.2:=by
     intro i qt
     obtain⟨cs',h1,h2⟩:=hi i (by omega)
     obtain⟨h3,d,h4⟩:=ih.1 e' n cs' _ vC h2
     rw[ei]at h1
     exact⟨(cs',d),h3,h1,h4⟩
    obtain⟨V,hV⟩:= @choose_lt _ ⟨([],e.MO)⟩ _ _ hel
    refine⟨rfl,(List.range len).map (fun i=>(V i).2),some a,cap,by simp,by simpa using hl,hm,(fun e=>by cases e),fun aP=>?_⟩
    have tk:0<len:=by
     rcases tT len with h | h
     ·subst h;exact absurd rfl aP
     ·exact h
    obtain⟨b,o,spot⟩:=a
    have aeN:spot=none:=by
     obtain⟨q1,q2,_⟩:=hV 0 tk
     obtain⟨_,q4,q5⟩:=World.cells?_some q2
     have:=vc.spot (a:=(⟨b,o,spot⟩:Addr).add (0*e.size)) h0 q4 q5
     unfold Addr.add at this
     split at this <;> simp_all
    subst aeN
    refine⟨b,o,rfl,fun i hi=>?_⟩
    have eN:i<len:=by simpa using hi
    obtain⟨q1,q2,q3⟩:=hV i eN
    obtain⟨_,q4,q5⟩:=World.cells?_some q2
    refine⟨(V i).1,q1,fun j u hu=>?_,by simpa using q3⟩
    have hj:j<e.size:=by have:=(cf.1 hu).1;omega
    have:=q5 j hj
    rw[Addr.add_lit,Addr.add_lit]at this
    rw[this,hu]
  ·cases hf
 |nil=>
  refine⟨fun t fuel cs x hf h=>?_,fun fs off n cs hf hl _=>?_⟩
  ·unfold Sh.fit at hf
   split at hf
   ·rename_i fs hk
    obtain⟨_,hz⟩:=yQ hf
    have hz:=fm hz
    obtain⟨xs,n,_,_,hlen,_⟩:=DataW.trod_struct hk h
    have:cs=[]:=jP.1 (by omega)
    exact⟨by simp[this,Sh.size],(),this⟩
   ·cases hf
  ·exact⟨(),List.drop_eq_nil_of_le (by simp[Sh.size]at hl;omega)⟩
 |field f r qn jK=>
  have key:∀(f0:Field) (fs:List Field) (off n:Nat) (cs:List Value),
    (decide (f0.offset=off)&&decide (P.cellsOf f0.type=f.size)&&f.fit P (.inl f0.type)&&r.fit P (.inr (fs,off+f.size)))=true→cs.length=off+(f.size+r.size)→
    (∀(i:Nat) (g:Field),(f0::fs)[i]?=some g→∃x,DataW.trod enc P w base spare held n g.type ((cs.drop g.offset).take (P.cellsOf g.type))=some x)→∃d,Reads w (.field f r) (cs.drop off) d:=by
   intro f0 fs off n cs hf hl hx
   obtain⟨iH,hr⟩:=yQ hf
   obtain⟨vC,hff⟩:=yQ iH
   obtain⟨ho,hc⟩:=yQ vC
   have ho:=fm ho
   have hc:=fm hc
   obtain⟨x,Ng⟩:=hx 0 f0 rfl
   obtain⟨xm,d1,qv⟩:=qn.1 _ _ _ _ hff Ng
   obtain⟨d2,mI⟩:=jK.2 fs (off+f.size) n cs hr (by omega) (fun i g hg=>hx (i+1) g (by simpa using hg))
   refine⟨(d1,d2),(cs.drop f0.offset).take (P.cellsOf f0.type),cs.drop (off+f.size),?_,xm,qv,mI⟩
   rw[ho,hc,← List.drop_drop,Bq]
  refine⟨fun t fuel cs x hf h=>?_,fun fs off n cs hf hl hx=>?_⟩
  ·unfold Sh.fit at hf
   split at hf
   ·rename_i fs hk
    split at hf
    ·rename_i f0 ER y8
     obtain⟨hz,hf'⟩:=yQ hf
     have hz:=fm hz
     obtain⟨xs,n,_,_,hlen,Nd,hg⟩:=DataW.trod_struct hk h
     have hl:cs.length=0+(f.size+r.size):=by omega
     obtain⟨d,hd⟩:=key f0 ER 0 n cs (by simpa using hf') hl (fun i g hig=>by
      have hi:fs[i]?=some g:=by rw[← Bn,y8];exact hig
      have:=hg i g hi
      have y7:i<xs.length:=by rw[Nd];exact (EM.1 hi).1
      exact⟨xs[i],by rw[this];exact bJ y7⟩)
     exact⟨by simpa [Sh.size]using hl,d,by simpa using hd⟩
    ·cases hf
   ·cases hf
  ·cases fs with
   |nil=>simp[Sh.fit]at hf
   |cons f0 ER=>exact key f0 ER off n cs (by simpa [Sh.fit]using hf) (by simpa [Sh.size]using hl) hx
theorem Qv{H:Type}{enc:TypeId×Value→H}{P:Program}{w:World}{base:Nat}{spare:Nat→Bool}{held:Bool}{t:TypeId}{v:Value}{d:DataW H}{p:List MemPlace}(s:Sh)(hs:s.fit P (.inl t)=true)
  (h:DataW.Trod enc P w base spare held t v d p):∃x:s.T,Reads w s v.cells.toList x:=by
 obtain⟨fuel,hf⟩:=h
 exact ((Z9 s).1 t fuel _ _ hs hf).2
theorem wf_u64{n:Int}(h:(Lit.int .u64 n).wf=true):0≤n∧n<18446744073709551616:=by
 have:=bounds_u64 h
 omega
inductive AV where
 |int (k:IntKind) (n:Int)
 |bool (b:Bool)
 |str (s:ByteArray)
 |af (e:Sh) (l:List e.T)
 |kq
 |gU
 |aj
 |ae (b off len e:Nat)
 |cQ
 |ptr (b off:Nat)
 |fO (cs:List AV)
 |agg (cs:List AV)
 |tup (vs:List AV)
 |iface (t:TypeId) (v:AV)
 |nilif
 |fn (f:Fn) (first cap:List AV)
 |iC
 |pt
 |gd (n:Int)
 |fL (n m:Int)
 |any
 |via (v:AV)
 |nj (b:Nat)
 |n0 (l:List (Int×Int))
 |nr (b:Nat)
 |rZ (m c:Nat) (seen:List Nat)
 |mr (L:Loop) (t:Nat→AV)
abbrev Hp:Type:=List (Nat×List AV)
abbrev Tm:Type:=Nat→AV
def Sh.cells:(s:Sh)→s.T→List AV
 |.int k,(n:Int)=>[.int k n]
 |.bool,(b:Bool)=>[.bool b]
 |.str,(s:ByteArray)=>[.str s]
 |.slice e,(l:List e.T)=>[.af e l]
 |.nil,_=>[]
 |.field f r,(d:f.T×r.T)=>f.cells d.1++r.cells d.2
def AV.leaf:AV→Bool
 |.agg _ | .tup _ | .any | .n0 _ | .rZ _ _ _ | .mr _ _=>false
 |_=>true
def AV.cells?:AV→Option (List AV)
 |.agg cs=>some cs
 |.tup _ | .any | .n0 _ | .rZ _ _ _ | .mr _ _=>none
 |v=>some [v]
inductive TK where
 |int (k:IntKind) | bool | str | slice (e:TypeId) | ptr (e:TypeId) | aY (fs:List (Nat×TypeId)) | arr (n:Nat) (e:TypeId) | iface | func | map (k e:TypeId) | gd | fL | other
structure TI where
 k:TK
 size:Nat
 bytes:Nat
 zero:List AV
def TI.wide(i:TI):Bool:=match i.k with | .aY _ | .arr _ _=>true | _=>false
def zY:Value→AV
 |.int k n=>.int k n
 |.bool b=>.bool b
 |.string s=>.str s
 |.pointer none=>.cQ
 |.slice none 0 0=>.aj
 |.nilIface=>.nilif
 |.nilFunc=>.iC
 |.map none=>.pt
 |_=>.any
def UI:Value→AV
 |.agg cs=>match (cs.toList.map zY).all AV.leaf with | true=>.agg (cs.toList.map zY) | false=>.any
 |.tuple vs=>match vs.toList with | []=>.tup [] | _=>.any
 |v=>zY v
def ev(t:Tm):Operand→AV
 |.tmp i=>t i
 |.const v=>UI v
 |.global _=>.any
 |.func f=>.fn (.func f) [] []
def put(t:Tm)(d:Option Tmp)(v:AV):Tm:=
 match d with
 |none=>t
 |some d=>fun i=>match Nat.beq i d with | true=>v | false=>t i
def Db(b:Bool)(A B:Prop):Prop:=match b with | true=>A | false=>B
theorem dB{b:Bool}{A B:Prop}(h1:b=true→A)(h2:b=false→B):Db b A B:=by cases b;exact h2 rfl;exact h1 rfl
theorem an{p:Prop}[Decidable p]{A B:Prop}(h1:p→A)(h2:¬p→B):Db (decide p) A B:=by
 by_cases h:p
 ·simp only[h,decide_true];exact h1 h
 ·simp only[h,decide_false];exact h2 h
theorem JQ{b:Bool}{A B:Prop}(h:b=true)(h1:A):Db b A B:=by subst h;exact h1
theorem W7{b:Bool}{A B:Prop}(h:b=false)(h1:B):Db b A B:=by subst h;exact h1
def strict(v:AV)(K:AV→Prop):Prop:=
 match v with
 |.int k n=>K (.int k n)
 |.bool b=>K (.bool b)
 |.str s=>K (.str s)
 |.af e l=>K (.af e l)
 |.kq=>K .kq
 |.gU=>K .gU
 |.aj=>K .aj
 |.ae b o l e=>K (.ae b o l e)
 |.cQ=>K .cQ
 |.ptr b o=>K (.ptr b o)
 |.fO cs=>K (.fO cs)
 |.agg cs=>K (.agg cs)
 |.tup vs=>K (.tup vs)
 |.iface t v=>K (.iface t v)
 |.nilif=>K .nilif
 |.fn f a c=>K (.fn f a c)
 |.iC=>K .iC
 |.pt=>K .pt
 |.gd n=>K (.gd n)
 |.fL n m=>K (.fL n m)
 |.any=>K .any
 |.via v=>K (.via v)
 |.nj b=>K (.nj b)
 |.n0 l=>K (.n0 l)
 |.nr b=>K (.nr b)
 |.rZ m c s=>K (.rZ m c s)
 |.mr L t=>K (.mr L t)
theorem xW(v:AV)(K:AV→Prop):strict v K=K v:=by cases v <;> rfl
def bN:AV→AV
 |.via v=>v
 |v=>v
structure ag(p:Prop)(X:Prop):Prop where
 fact:p
 go:X
def eu(i:TI)(cs:List AV)(off:Nat):Option AV:=
 match i.wide with
 |true=>match Nat.ble (off+i.size) cs.length with | true=>some (.agg ((cs.drop off).take i.size)) | false=>none
 |false=>cs[off]?
def fS(cs:List AV)(off:Nat):List AV→List AV
 | []=>cs
 |v::r=>fS (cs.set off v) (off+1) r
def kJ(i:TI)(cs:List AV)(off:Nat)(v:AV):Option (List AV):=
 match v.cells? with
 |some vs=>match Nat.beq vs.length i.size,Nat.ble (off+i.size) cs.length with | true,true=>some (fS cs off vs) | _,_=>none
 |none=>none
inductive fu(i:TI)(σ:Hp)(b o:Nat)(K:AV→Prop):Prop where
 |mk (j:Nat) (cs:List AV) (v:AV) (h1:σ[j]?=some (b,cs)) (h2:eu i cs o=some v) (go:K v)
inductive GI(i:TI)(σ:Hp)(b o:Nat)(v:AV)(K:Hp→Prop):Prop where
 |mk (j:Nat) (cs cs':List AV) (h1:σ[j]?=some (b,cs)) (h2:kJ i cs o v=some cs') (go:K (σ.set j (b,cs')))
theorem aT{i:TI}{σ:Hp}{b o:Nat}{K:AV→Prop}(j:Nat){cs:List AV}{v:AV}(h1:σ[j]?=some (b,cs))(h2:eu i cs o=some v)(go:K v):fu i σ b o K:=.mk j cs v h1 h2 go
theorem cX{i:TI}{σ:Hp}{b o:Nat}{v:AV}{K:Hp→Prop}(j:Nat){cs cs':List AV}(h1:σ[j]?=some (b,cs))(h2:kJ i cs o v=some cs')(go:K (σ.set j (b,cs'))):GI i σ b o v K:=.mk j cs cs' h1 h2 go
theorem aa{i:TI}{σ:Hp}{b o:Nat}{K:AV→Prop}(j:Nat){cs:List AV}{v:AV}(go:K v)(h1:σ[j]?=some (b,cs):=by exact rfl)(h2:eu i cs o=some v:=by exact rfl):fu i σ b o K:=.mk j cs v h1 h2 go
theorem ak{i:TI}{σ:Hp}{b o:Nat}{v:AV}{K:Hp→Prop}(j:Nat){cs cs':List AV}(go:K (σ.set j (b,cs')))(h1:σ[j]?=some (b,cs):=by exact rfl)(h2:kJ i cs o v=some cs':=by exact rfl):GI i σ b o v K:=.mk j cs cs' h1 h2 go
inductive bG{α:Type}(l:List α)(n:Int)(K:α→Prop):Prop where
 |mk (x:α) (h0:0≤n) (h1:l[n.toNat]?=some x) (go:K x)
def rW(TO:List (Nat×Nat))(cs:List AV):List (Nat×AV)→Option (List AV)
 | []=>some cs
 |(i,v)::r=>match TO[i]?,v.cells? with
  |some (off,size),some vs=>match Nat.beq vs.length size,Nat.ble (off+size) cs.length with | true,true=>rW TO (fS cs off vs) r | _,_=>none
  |_,_=>none
def cE(z:List AV):Nat→List AV
 | 0=>[]
 |n+1=>z++cE z n
section
variable (P:Program) (TT:TypeId→Option TI)
def Co:List (Nat×TypeId)→Option (List (Nat×Nat))
 | []=>some []
 |(off,t)::r=>match TT t,Co r with | some i,some ps=>some ((off,i.size)::ps) | _,_=>none
def G1(t:TypeId)(parts:List (Nat×AV)):Option AV:=
 match TT t with
 |some ⟨.aY fs,_,_,z⟩=>match Co TT fs with | some ps=>(rW ps z parts).map .agg | none=>none
 |some ⟨.arr n e,_,_,z⟩=>match TT e with | some i=>(rW ((List.range n).map fun j=>(j*i.size,i.size)) z parts).map .agg | none=>none
 |_=>none
def p7(i:TI)(a:AV)(σ:Hp)(K:AV→Prop):Prop:=
 match a with
 |.fO cs=>match eu i cs 0 with | some v=>K v | none=>False
 |.ptr b o=>fu i σ b o K
 |_=>False
def og(b:Bool)(K:AV→Prop):Prop:=Db b (K (.bool true)) (K (.bool false))
def Ah(k:TK)(want:Bool)(x y:AV)(K:AV→Prop):Prop:=
 match k,x,y with
 |.ptr _,.cQ,.cQ=>K (.bool want)
 |.ptr _,.ptr _ _,.cQ=>K (.bool !want)
 |.ptr _,.fO _,.cQ=>K (.bool !want)
 |.slice _,.aj,.aj=>K (.bool want)
 |.slice _,.ae _ _ _ _,.aj=>K (.bool !want)
 |.slice _,.gU,.aj=>K (.bool !want)
 |.slice _,.af _ l,.aj=>ag (0<l.length) (K (.bool !want))
 |.iface,.nilif,.nilif=>K (.bool want)
 |.iface,.iface _ _,.nilif=>K (.bool !want)
 |.func,.iC,.iC=>K (.bool want)
 |.func,.fn _ _ _,.iC=>K (.bool !want)
 |_,_,_=>False
def SO:Operand→Bool
 |.const _=>true
 |_=>false
def HG(op:BinOp)(k:IntKind)(a b:Int)(K:AV→Prop):Prop:=
 match op with
 |.add=>K (.int k (k.wrap (a+b)))
 |.sub=>K (.int k (k.wrap (a-b)))
 |.mul=>K (.int k (k.wrap (a*b)))
 |.quo=>ag (b≠0) (K (.int k (k.wrap (a.tdiv b))))
 |.rem=>ag (b≠0) (K (.int k (a.tmod b)))
 |.and | .or | .xor | .andNot=>K (.int k (bits op k a b))
 |.eql=>og (decide (a=b)) K
 |.neq=>og (!decide (a=b)) K
 |.lss=>og (decide (a<b)) K
 |.leq=>og (decide (a≤b)) K
 |.gtr=>og (decide (b<a)) K
 |.geq=>og (decide (b≤a)) K
 |_=>False
def GM(op:BinOp)(k:IntKind)(a b:Int)(K:AV→Prop):Prop:=
 match op with
 |.shl=>ag (0≤b) (K (.int k (k.wrap (a*2 ^ (min b.toNat k.bits)))))
 |.shr=>ag (0≤b) (K (.int k (a.fdiv (2 ^ (min b.toNat k.bits)))))
 |_=>False
def DH(op:BinOp)(t:TypeId)(y0:Operand)(x y:AV)(K:AV→Prop):Prop:=
 match x,y with
 |.int k a,.int k' b=>match op with
  |.shl | .shr=>GM op k a b K
  |_=>match decide (k=k') with | true=>HG op k a b K | false=>False
 |.bool a,.bool b=>match TT t with
  |some ⟨.bool,_,_,_⟩=>(match op with | .eql=>og (a == b) K | .neq=>og (!(a == b)) K | _=>False)
  |_=>False
 |.str a,.str b=>match op with | .eql=>og (a.toList == b.toList) K | .neq=>og (!(a.toList == b.toList)) K | _=>False
 |x,y=>match SO y0,TT t with
  |true,some i=>(match op with | .eql=>Ah i.k true x y K | .neq=>Ah i.k false x y K | _=>False)
  |_,_=>False
def adL:AV→AV→Bool
 |.int _ a,.int _ b=>decide (a=b)
 |.bool a,.bool b=>a == b
 |.str a,.str b=>a.toList == b.toList
 |_,_=>false
def s7(xs ys:List AV):List Bool:=List.zipWith adL xs ys
def gq(l:List Bool):Bool:=l.all id
def HP(TT:TypeId→Option TI)(rec:TypeId→AV→AV→Option (List Bool))(xs ys:List AV):List Field→Option (List Bool)
 | []=>some []
 | f :: fs => match f.name == "_", TT f.type with
  |false,some i=>match eu i xs f.offset,eu i ys f.offset with
   |some a,some b=>match rec f.type a b,HP TT rec xs ys fs with | some l,some l'=>some (l++l') | _,_=>none
   |_,_=>none
  |_,_=>none
def HO(TT:TypeId→Option TI)(rec:TypeId→AV→AV→Option (List Bool))(e:TypeId)(c:Nat)(xs ys:List AV):List Nat→Option (List Bool)
 | []=>some []
 |k::ks=>match TT e with
  |some i=>match eu i xs (k*c),eu i ys (k*c) with
   |some a,some b=>match rec e a b,HO TT rec e c xs ys ks with | some l,some l'=>some (l++l') | _,_=>none
   |_,_=>none
  |none=>none
def zm(P:Program)(TT:TypeId→Option TI):Nat→TypeId→AV→AV→Option (List Bool)
 | 0,_,_,_=>none
 |d+1,t,x,y=>match P.underlying t,x,y with
  |some .bool,.bool a,.bool b=>some [a == b]
  |some (.int _),.int k a,.int k' b=>(match decide (k=k') with | true=>some [decide (a=b)] | false=>none)
  |some .string,.str a,.str b=>some [a.toList == b.toList]
  |some (.struct fs),.agg xs,.agg ys=>(match P.stoodInHeld t with | true=>none | false=>HP TT (zm P TT d) xs ys fs.toList)
  |some (.array n e),.agg xs,.agg ys=>(match TT e with | some _=>HO TT (zm P TT d) e (P.cellsOf e) xs ys (List.range n) | none=>none)
  |_,_,_=>none
inductive EqAt(P:Program)(TT:TypeId→Option TI)(t:TypeId)(xs ys:List AV)(K:Bool→Prop):Prop where
 |mk (h1:P.eqGuardType P.depth t=false) (h2:zm P TT 8 t (.agg xs) (.agg ys)=some (s7 xs ys)) (go:K (gq (s7 xs ys))):EqAt P TT t xs ys K
def gY(n:Int):Prop:=n.natAbs<9007199254740992
def MP(op:BinOp)(a b c d:Int)(K:AV→Prop):Prop:=
 match op with
 |.add=>ag (gY (a+c)∧gY (b+d)) (K (.fL (a+c) (b+d)))
 |.sub=>ag (gY (a-c)∧gY (b-d)) (K (.fL (a-c) (b-d)))
 |.mul=>ag ((gY (a*c)∧gY (b*d)∧gY (a*c-b*d))∧gY (a*d)∧gY (b*c)∧gY (a*d+b*c)) (K (.fL (a*c-b*d) (a*d+b*c)))
 |_=>False
def C8(x y:AV)(K:AV→Prop):Prop:=match x,y with | .gd a,.gd b=>K (.fL a b) | _,_=>False
def CT(x:AV)(K:AV→Prop):Prop:=match x with | .fL a _=>K (.gd a) | _=>False
def CZ(x:AV)(K:AV→Prop):Prop:=match x with | .fL _ b=>K (.gd b) | _=>False
def DJ(P:Program)(TT:TypeId→Option TI)(op:BinOp)(t:TypeId)(y0:Operand)(x y:AV)(K:AV→Prop):Prop:=
 match x,y with
 |.agg xs,.agg ys=>match op with
  |.eql=>EqAt P TT t xs ys fun b=>og b K
  |.neq=>EqAt P TT t xs ys fun b=>og (!b) K
  |_=>False
 |.fL a b,.fL c d=>MP op a b c d K
 |x,y=>DH TT op t y0 x y K
def DO(op:UnOp)(x:AV)(K:AV→Prop):Prop:=
 match op,x with
 |.not,.bool b=>K (.bool !b)
 |.neg,.int k n=>K (.int k (k.wrap (0-n)))
 |.xor,.int k n=>K (.int k (bits .xor k (if k.signed then -1 else k.max) n))
 |.neg,.gd n=>K (.gd (-n))
 |_,_=>False
def C9(s d:TypeId)(x:AV)(K:AV→Prop):Prop:=
 match TT s,TT d,x with
 |some _,some ⟨.int k,_,_,_⟩,.int _ n=>K (.int k (k.wrap n))
 |some _,some ⟨.gd,_,_,_⟩,.int _ n=>ag (gY n) (K (.gd n))
 |some _,some ⟨.int k,_,_,_⟩,.gd n=>ag (k.min≤n∧n≤k.max) (K (.int k n))
 |_,_,_=>False
def s4:Option AV→Option Int
 |none=>some 0
 |some (.int _ n)=>some n
 |_=>none
def An(len:Nat):Option AV→Option Int
 |none=>some len
 |some (.int _ n)=>some n
 |_=>none
def zX(t:TypeId)(x:AV)(lo hi mx:Option AV)(K:AV→Prop):Prop:=
 match TT t,mx with
 |some ⟨.slice e,_,_,_⟩,none=>match TT e,x with
  |some i,.ae b off len es=>match s4 lo,An len hi with
   |some l,some h=>ag (0≤l∧l≤h∧h≤len∧i.size=es) (K (.ae b (off+l.toNat*es) (h.toNat-l.toNat) es))
   |_,_=>False
  |some i,.af s xs=>match s4 lo,An xs.length hi with
   |some l,some h=>ag (0≤l∧l≤h∧h≤xs.length∧i.size=s.size) (K (.af s ((xs.drop l.toNat).take (h.toNat-l.toNat))))
   |_,_=>False
  |some _,.aj=>match s4 lo,An 0 hi with
   |some l,some h=>ag (0≤l∧l≤h∧h≤(0:Nat)) (K .aj)
   |_,_=>False
  |_,_=>False
 |some ⟨.slice e,_,_,_⟩,some (.int _ m)=>match TT e,x,hi with
  |some i,.ae b off len es,some (.int _ h)=>match s4 lo with
   |some l=>ag (0≤l∧l≤h∧h≤m∧m≤len∧i.size=es) (K (.ae b (off+l.toNat*es) (h.toNat-l.toNat) es))
   |_=>False
  |_,_,_=>False
 |_,_=>False
def BF(t:TypeId)(x ix:AV)(K:AV→Prop):Prop:=
 match TT t,ix with
 |some ⟨.slice e,_,_,_⟩,.int _ n=>match TT e,x with
  |some i,.af s l=>ag (i.size=s.size) (bG l n fun d=>K (.fO (s.cells d)))
  |some i,.ae b off len es=>ag (i.size=es∧0≤n∧n<len) (K (.ptr b (off+n.toNat*es)))
  |_,_=>False
 |some ⟨.arr m e,_,_,_⟩,.int _ n=>match TT e,x with
  |some i,.ptr b o=>ag (0≤n∧n<m) (K (.ptr b (o+n.toNat*i.size)))
  |some i,.fO cs=>ag (0≤n∧n<m) (K (.fO (cs.drop (n.toNat*i.size))))
  |_,_=>False
 |_,_=>False
def getM:List (Int×Int)→Int→Option Int
 | [],_=>none
 |p::l,n=>if p.1=n then some p.2 else getM l n
def q9:List (Int×Int)→Int→Int→List (Int×Int)
 | [],n,x=>[(n,x)]
 |p::l,n,x=>if p.1=n then (n,x)::l else p::q9 l n x
inductive Hz(σ:Hp)(m:AV)(K:Nat→Nat→List (Int×Int)→Prop):Prop where
 |mk (j b:Nat) (l:List (Int×Int)) (hm:m=.nj b) (h1:σ[j]?=some (b,[.n0 l])) (go:K j b l):Hz σ m K
def AD(t:TypeId):Option Int:=match TT t with
 |some ⟨.map k e,_,_,_⟩=>(match TT k,TT e with | some ⟨.int .i64,_,_,_⟩,some ⟨.int .i64,_,_,[.int .i64 z]⟩=>some z | _,_=>none)
 |_=>none
def Ct(t:TypeId)(m k:AV)(c:Bool)(σ:Hp)(K:AV→Prop):Prop:=
 match AD TT t,k with
 |some z,.int .i64 n=>Hz σ m fun _ _ l=>(match c with | true=>K (.tup [.int .i64 ((getM l n).getD z),.bool (getM l n).isSome]) | false=>K (.int .i64 ((getM l n).getD z)))
 |_,_=>False
def BI(s:TypeId)(x:AV)(f:Nat)(K:AV→Prop):Prop:=
 match TT s with
 |some ⟨.aY fs,_,_,_⟩=>match fs[f]? with
  |some (off,t)=>match TT t with
   |some i=>match Nat.blt 0 i.size,x with
    |true,.ptr b o=>K (.ptr b (o+off))
    |true,.fO cs=>K (.fO (cs.drop off))
    |_,_=>False
   |none=>False
  |none=>False
 |_=>False
def CL(s:TypeId)(x:AV)(f:Nat)(K:AV→Prop):Prop:=
 match TT s,x with
 |some ⟨.aY fs,_,_,_⟩,.agg cs=>match fs[f]? with
  |some (off,t)=>match TT t with | some i=>(match eu i cs off with | some v=>K v | none=>False) | none=>False
  |none=>False
 |_,_=>False
def Dr(k:TK)(x:AV)(K:AV→Prop):Prop:=
 match k,x with
 |.slice _,.af _ l=>K (.int .i64 l.length)
 |.slice _,.ae _ _ len _=>K (.int .i64 len)
 |.slice _,.aj=>K (.int .i64 0)
 |.slice _,.kq=>K (.int .i64 0)
 |.slice _,.gU=>K (.int .i64 0)
 |_,_=>False
def DG(k:TK)(x:AV)(K:AV→Prop):Prop:=
 match k,x with
 |.slice _,.aj=>K (.int .i64 0)
 |.slice _,.kq=>K (.int .i64 0)
 |_,_=>False
def Dm(xs:List AV)(K:AV→Prop):Prop:=
 match xs with
 | [.int k a,.int k' b]=>match decide (k=k') with | true=>K (.int k (if b<a then b else a)) | false=>False
 |_=>False
def Dn(xs:List AV)(K:AV→Prop):Prop:=
 match xs with
 | [.int k a,.int k' b]=>match decide (k=k') with | true=>K (.int k (if a<b then b else a)) | false=>False
 |_=>False
def AheadOk(t:TypeId)(m:String):Prop:=∀(a:Addr) (w:World),(nilAhead (P.types.size+Made.depth) t (.pointer (some a)) m).run P w=.ok (some false) w
inductive eS(t:TypeId)(m:String)(X:Prop):Prop where
 |mk (h:AheadOk P t m) (go:X):eS t m X
def fy(op:Op)(ρ:Operand→AV)(σ:Hp)(K:AV→Prop):Prop:=
 match op with
 |.move x | .assign x=>strict (ρ x) K
 |.pick c a b=>match ρ c with | .bool x=>(match x with | true=>strict (ρ a) K | false=>strict (ρ b) K) | _=>False
 |.build t parts=>match G1 TT t (parts.toList.map fun p=>(p.1,ρ p.2)) with | some v=>K v | none=>False
 |.load t a=>match TT t with | some i=>p7 i (ρ a) σ K | none=>False
 |.nilCheck x=>match ρ x with | .ptr b o=>K (.ptr b o) | .fO cs=>K (.fO cs) | .fn (.func f) a c=>K (.fn (.func f) a c) | .fn (.method m) [.iface t (.ptr b o)] c=>eS P t m (K (.fn (.method m) [.iface t (.ptr b o)] c)) | .iface t v=>K (.iface t v) | _=>False
 |.binOp op t x y _=>DJ P TT op t y (bN (ρ x)) (bN (ρ y)) K
 |.unOp op _ x=>DO op (ρ x) K
 |.convert s d x=>C9 TT s d (ρ x) K
 |.makeInterface t x=>match TT t with | some ⟨.iface,_,_,_⟩=>False | some _=>K (.iface t (ρ x)) | none=>False
 |.makeFunc f first cap=>K (.fn f (first.toList.map ρ) (cap.toList.map ρ))
 |.slice t x lo hi mx=>zX TT t (bN (ρ x)) (lo.map fun x=>bN (ρ x)) (hi.map fun x=>bN (ρ x)) (mx.map fun x=>bN (ρ x)) K
 |.fieldAddr s x f=>BI TT s (ρ x) f K
 |.field s x f=>CL TT s (ρ x) f K
 |.indexAddr t x ix=>BF TT t (bN (ρ x)) (bN (ρ ix)) K
 |.typeAssert x _ t ok=>match ok,TT t,ρ x with
  |true,some ⟨.ptr _,_,_,[.cQ]⟩,.iface t' v=>(match Nat.beq t' t with | true=>K (.tup [v,.bool true]) | false=>K (.tup [.cQ,.bool false]))
  |true,some ⟨.ptr _,_,_,[.cQ]⟩,.nilif=>K (.tup [.cQ,.bool false])
  |_,_,_=>False
 |.lookup t m k c=>Ct TT t (bN (ρ m)) (bN (ρ k)) c σ K
 |.extract x i=>match ρ x with | .tup vs=>(match vs[i]? with | some v=>K v | none=>False) | _=>False
 |.call ⟨.builtin .len,args,cx⟩=>match args.toList,cx.toList with | [x],[t]=>(match TT t with | some i=>Dr i.k (bN (ρ x)) K | none=>False) | _,_=>False
 |.call ⟨.builtin .min,args,_⟩=>match args.toList with | [x,y]=>Dm [ρ x,ρ y] K | _=>False
 |.call ⟨.builtin .max,args,_⟩=>match args.toList with | [x,y]=>Dn [ρ x,ρ y] K | _=>False
 |.call ⟨.builtin .complex,args,_⟩=>match args.toList with | [x,y]=>C8 (ρ x) (ρ y) K | _=>False
 |.call ⟨.builtin .real,args,_⟩=>match args.toList with | [x]=>CT (ρ x) K | _=>False
 |.call ⟨.builtin .imag,args,_⟩=>match args.toList with | [x]=>CZ (ρ x) K | _=>False
 |.call ⟨.builtin .cap,args,cx⟩=>match args.toList,cx.toList with | [x],[t]=>(match TT t with | some i=>DG i.k (bN (ρ x)) K | none=>False) | _,_=>False
 |_=>False
end
end Go.Proofs.YtnikdflhefijbaaGreat
