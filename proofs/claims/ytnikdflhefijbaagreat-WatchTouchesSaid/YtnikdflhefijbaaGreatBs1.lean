import Derived.Below
import Derived.BigQuiet
import Derived.Carry
import Derived.ChangeOld
import Derived.Deep.OwnRows
import Derived.Deep.QuietTactic
import Derived.Deep.Slices
import Derived.Handy
import Derived.Maps.AppendAt
import Derived.OpenShut
import Derived.ProofKit
import Derived.ShutString
import Derived.Stop.IfaceNil
import Derived.Test.YtnikdflhefijbaaGreatRows
import Derived.WalkKit
import Derived.WalkLawsBesides
import Derived.WalkSpells
import Derived.Laws.ComplexArith
import Derived.RangeFuncRecord
import Derived.MapFrom
namespace Go.Proofs.YtnikdflhefijbaaGreat
open Go.RowKit
abbrev bu:= @List.getElem?_eq_getElem
abbrev bK:= @List.getD_eq_getElem?_getD
abbrev bB:= @List.length_append
abbrev bj:= @List.mem_singleton
abbrev cW:= @List.getElem?_eq_some_iff
abbrev eM:= @List.take_succ_eq_append_getElem
abbrev cj:= @Nat.le_of_ble_eq_true
abbrev bD:= @Int.toNat_natCast
abbrev aX:= @decide_eq_true
abbrev bU:= @List.getElem_mem
abbrev bS:= @Bool.and_eq_true
abbrev bQ:= @List.mem_append
abbrev cF:= @List.mem_cons_self
abbrev dZ:= @List.take_of_length_le
abbrev dz:= @List.mem_of_getElem?
abbrev cU:= @List.append_assoc
abbrev cp:= @decide_eq_false
abbrev aV:= @Nat.zero_le
abbrev dq:= @List.mem_cons_of_mem
abbrev cE:= @List.map_append
abbrev bg:= @Nat.le_refl
abbrev cN:= @List.length_map
abbrev fE:= @List.length_eq_zero_iff
abbrev az:= @if_pos
abbrev aB:= @if_neg
abbrev gR:= @Array.getD_eq_getD_getElem?
abbrev er:= @List.take_length
abbrev dY:= @List.length_set
abbrev iL:= @List.getElem?_append_right
abbrev gh:= @List.length_replicate
abbrev dE:= @Nat.le_trans
abbrev gg:= @List.mem_append_left
abbrev eX:= @of_decide_eq_true
abbrev dD:= @Nat.zero_add
abbrev fD:= @List.getElem?_map
abbrev fq:= @List.all_eq_true
abbrev dW:= @List.mem_cons
abbrev ku:= @List.getElem?_append_left
abbrev iK:= @List.mem_append_right
abbrev fy:= @List.drop_zero
abbrev ju:= @Nat.eq_of_beq_eq_true
abbrev fC:= @List.append_nil
abbrev dH:= @Nat.mul_one
abbrev gQ:= @List.getElem?_set
abbrev gH:= @List.length_cons
abbrev gP:= @List.mem_range
abbrev eW:= @List.mem_map
abbrev mE:= @Int.toNat_of_nonneg
abbrev j7:= @Bool.not_eq_true'
abbrev pA:= @Array.getElem?_eq_getElem
abbrev ma:= @List.nodup_append
abbrev jK:= @List.mem_filter
abbrev l9:= @List.length_pos_iff
abbrev kr:= @List.any_eq_true
abbrev nt:= @Nat.mul_le_mul_right
abbrev qx:= @Int.eq_ofNat_of_zero_le
abbrev Ee:= @List.length_filter_le
abbrev sF:= @List.flatMap_append
abbrev oh:= @List.length_take
abbrev pz:= @List.range_succ
abbrev sE:= @List.getElem?_eq_none
abbrev tQ:= @List.drop_eq_getElem_cons
abbrev og:= @List.length_range
abbrev py:= @of_decide_eq_false
abbrev px:= @Nat.eq_zero_or_pos
abbrev ns:= @List.perm_middle
abbrev nr:= @List.mem_flatten
abbrev mD:= @List.nodup_cons
abbrev pr:= @List.size_toArray
abbrev qw:= @List.getElem?_take
abbrev xA:= @List.getElem?_replicate
abbrev tP:= @List.filter_append
abbrev l8:= @Bool.false_or
abbrev l7:= @Nat.sub_self
abbrev pq:= @Bool.or_eq_true
abbrev oe:= @Nat.mul_le_mul
abbrev rE:= @List.foldl_append
abbrev sD:= @List.flatMap_cons
abbrev vL:= @Option.map_eq_some_iff
abbrev kU:= @Int.le_refl
abbrev Ed:= @Nat.ble_eq_true_of_le
abbrev tO:= @List.length_reverse
abbrev Ni:= @List.flatten_append
abbrev y6:= @Array.getElem?_eq_some_iff
abbrev vK:= @List.mem_iff_getElem
abbrev tN:= @Nat.lt_of_lt_of_le
abbrev Ba:= @List.length_pos_of_mem
abbrev xz:= @List.drop_of_length_le
abbrev sC:= @List.not_mem_nil
abbrev pn:= @List.map_cons
abbrev Ec:= @List.set_append_right
abbrev sB:= @List.map_set
abbrev y5:= @List.getElem?_toArray
abbrev sA:= @List.nil_append
abbrev Eb:= @List.filter_cons_of_neg
abbrev vJ:= @Bool.false_eq_true
abbrev xx:= @Nat.pow_le_pow_right
abbrev A9:= @Int.tmod_eq_emod_of_nonneg
abbrev Ii:= @Array.getElem?_append_left
abbrev y4:= @Nat.testBit_lt_two_pow
abbrev Ih:= @List.replicate_succ
abbrev A8:= @Array.toList_append
abbrev A7:= @List.mem_or_eq_of_mem_set
abbrev rD:= @Nat.succ_mul
abbrev A6:= @List.take_append_drop
abbrev yZ:= @List.mem_iff_getElem?
abbrev A5:= @List.length_singleton
abbrev tM:= @Int.natCast_add
abbrev xw:= @List.pairwise_cons
abbrev yY:= @List.getElem?_drop
abbrev vI:= @Nat.mod_eq_of_lt
abbrev Ig:= @List.ext_getElem
abbrev Ea:= @List.filter_cons_of_pos
abbrev sy:= @Nat.pow_zero
abbrev xv:= @List.flatten_cons
abbrev vH:= @Nat.not_lt_zero
abbrev qv:= @Nat.add_mul
abbrev xt:= @List.all_append
abbrev Ie:= @List.filter_cons
abbrev sx:= @Nat.lt_or_ge
abbrev A4:= @List.eq_nil_or_concat
abbrev A3:= @Array.getElem?_toList
abbrev rC:= @Nat.pow_add
abbrev A2:= @List.getElem?_of_mem
abbrev yX:= @Nat.min_eq_left
abbrev yW:= @List.ext_getElem?
abbrev Ic:= @List.eq_of_mem_replicate
abbrev yV:= @Bool.eq_false_iff
abbrev Ib:= @Array.getElem?_setIfInBounds_ne
abbrev Ia:= @List.eq_nil_iff_forall_not_mem
abbrev H9:= @Array.eq_empty_of_size_eq_zero
abbrev A1:= @List.getElem?_range
abbrev A0:= @Nat.lt_succ_self
abbrev H8:= @List.take_append_of_le_length
abbrev D9:= @Array.size_eq_zero_iff
abbrev vG:= @Nat.le_of_eq
abbrev vF:= @Nat.add_zero
abbrev AZ:= @List.foldl_cons
abbrev tL:= @Nat.mod_lt
abbrev D8:= @Nat.add_assoc
abbrev AY:= @List.pairwise_map
abbrev AX:= @List.any_eq_false
abbrev go2:= @Int.tdiv_eq_ediv_of_nonneg
abbrev D7:= @Nat.eq_of_testBit_eq
abbrev H7:= @List.nodup_nil
abbrev AW:= @List.cons_append
abbrev D6:= @List.length_zipWith
abbrev Nh:= @Array.length_toList
abbrev xr:= @Nat.zero_mul
abbrev xq:= @Nat.beq_refl
abbrev AU:= @Nat.two_pow_pos
abbrev H6:= @Nat.testBit_mod_two_pow
abbrev H5:= @Nat.add_sub_cancel_left
abbrev gp3:= @Nat.add_sub_cancel
abbrev gp4:= @List.filter_nil
abbrev yU:= @Bool.true_and
abbrev Ng:= @Nat.and_two_pow_sub_one_eq_mod
abbrev H4:= @List.perm_append_comm
abbrev H3:= @Array.getElem?_modify
abbrev D4:= @Option.getD_some
abbrev D3:= @Nat.succ_le_succ
abbrev D2:= @List.getElem_set
abbrev D1:= @List.getElem_map
abbrev Nf:= @List.drop_append_of_le_length
abbrev H2:= @List.pairwise_append
abbrev AT:= @Nat.mul_assoc
abbrev Nd:= @List.mem_zipIdx_iff_getElem?
abbrev Nc:= @Nat.two_pow_add_eq_or_of_lt
abbrev Nb:= @Nat.testBit_two_pow_sub_one
abbrev Na:= @Nat.testBit_two_pow_mul_add
abbrev H0:= @Nat.pos_iff_ne_zero
abbrev D0:= @Nat.log2_eq_iff
abbrev M9:= @List.sublist_flatten_of_mem
abbrev HZ:= @List.map_congr_left
abbrev DZ:= @Bool.eq_iff_iff
abbrev AS:= @Nat.mul_comm
abbrev HY:= @Nat.lt_of_le_of_lt
abbrev HX:= @List.singleton_inj
abbrev HW:= @Int.tmod_lt_of_pos
abbrev HV:= @Int.natAbs_natCast
abbrev HU:= @Int.emod_lt_of_pos
abbrev HT:= @Bool.not_eq_false'
abbrev DY:= @List.take_zero
abbrev M8:= @List.pairwise_iff_getElem
abbrev DX:= @List.drop_drop
abbrev M7:= @Int.mul_neg_of_neg_of_pos
abbrev DW:= @Bool.false_and
abbrev DV:= @Bool.and_false
abbrev HS:= @List.getElem_take
abbrev DU:= @Bool.not_true
abbrev DT:= @Bool.and_true
abbrev HR:= @List.drop_length
abbrev HQ:= @List.countP_cons
abbrev M6:= @List.pairwise_lt_range
abbrev HP:= @Option.map_some
abbrev HO:= @Nat.testBit_and
abbrev HN:= @List.map_const'
abbrev M5:= @List.length_mergeSort
abbrev gt8:= @List.any_append
abbrev HM:= @Int.natCast_mul
abbrev HL:= @Int.natAbs_zero
abbrev DS:= @Int.lt_or_le
abbrev HK:= @Int.emod_nonneg
abbrev gu3:= @Bool.beq_eq_decide_eq
abbrev AR:= @Int.not_lt
abbrev M4:= @List.mem_erase_of_ne
abbrev M3:= @List.getElem_zipWith
abbrev M1:= @List.eraseIdx_set_eq
abbrev HJ:= @Nat.testBit_or
abbrev HI:= @Int.natAbs_mul
abbrev M0:= @Nat.testBit_two_pow
abbrev MZ:= @List.mem_map_of_mem
abbrev MY:= @List.map_eq_flatMap
abbrev gv3:= @List.filter_eq_self
abbrev HH:= @Nat.lt_irrefl
abbrev HG:= @List.sum_cons
abbrev MX:= @List.mem_replicate
abbrev MW:= @List.map_replicate
abbrev MU:= @List.getElem_range
abbrev MT:= @Int.natCast_nonneg
theorem tb{w:World}{k:Nat}{o:Obj}(h:w.heap[k]?=some o):k<w.heap.size:=(y6.1 h).1
theorem FJ{w:World}{k i:Nat}{c:Array Value}{t:TypeId}{fz:Nat×Nat}(h:w.heap[k]?=some (.cells c t fz)):w.cell? ⟨k,i,none⟩=c[i]?:=by simp[World.cell?,h]
theorem wh(w:World)(o:Obj):(w.alloc o).heap[w.heap.size]?=some o:=heap_alloc_new w o
end Go.Proofs.YtnikdflhefijbaaGreat
namespace Go.Proofs.YtnikdflhefijbaaGreat
open Go.RowKit Go.ChangeShapes Go.WideShapes Go.ChangeAt Go.Deep
inductive Sh where
 |int (k:IntKind)
 |bool
 |str
 |slice (e:Sh)
 |nil
 |field (f r:Sh)
def Sh.size:Sh→Nat
 |.int _=>1
 |.bool=>1
 |.str=>1
 |.slice _=>1
 |.nil=>0
 |.field f r=>f.size+r.size
def Sh.T:Sh→Type
 |.int _=>Int
 |.bool=>Bool
 |.str=>ByteArray
 |.slice e=>List e.T
 |.nil=>Unit
 |.field f r=>f.T×r.T
def Sh.Lu:(s:Sh)→s.T
 |.int _=>(0:Int)
 |.bool=>false
 |.str=>ByteArray.empty
 |.slice _=>[]
 |.nil=>()
 |.field f r=>(f.Lu,r.Lu)
def uV(w:World)(b o:Nat)(cs:List Value):Prop:=∀j u,cs[j]?=some u→w.cell? ⟨b,o+j,none⟩=some u
def Reads(w:World):(s:Sh)→List Value→s.T→Prop
 |.int k,cs,(n:Int)=>cs=[.int k n]∧(Lit.int k n).wf=true
 |.bool,cs,(b:Bool)=>cs=[.bool b]
 |.str,cs,(s:ByteArray)=>cs=[.string s]∧s.size≤maxLen
 |.slice e,cs,(l:List e.T)=>∃(a:Option Addr) (c:Nat),cs=[.slice a l.length c]∧l.length≤c∧c≤maxLen∧(a=none→c=0)∧
   (l≠[]→∃b o,a=some ⟨b,o,none⟩∧∀i,(h:i<l.length)→∃cs',cs'.length=e.size∧uV w b (o+i*e.size) cs'∧Reads w e cs' l[i])
 |.nil,cs,_=>cs=[]
 |.field f r,cs,(d:f.T×r.T)=>∃c1 c2,cs=c1++c2∧c1.length=f.size∧Reads w f c1 d.1∧Reads w r c2 d.2
def Sh.fit(P:Program):Sh→Sum TypeId (List Field×Nat)→Bool
 |.int k,.inl t=>match P.underlying t with | some (.int k')=>decide (k=k') | _=>false
 |.bool,.inl t=>match P.underlying t with | some .bool=>true | _=>false
 |.str,.inl t=>match P.underlying t with | some .string=>true | _=>false
 |.slice e,.inl t=>match P.underlying t with | some (.slice e')=>e.fit P (.inl e')&&decide (P.cellsOf e'=e.size)&&decide (0<e.size) | _=>false
 |.nil,.inr ([],_)=>true
 |.nil,.inl t=>match P.underlying t with | some (.struct fs)=>fs.toList.isEmpty&&decide (P.cellsOf t=0) | _=>false
 |.field f r,.inr (f0::fs,off)=>decide (f0.offset=off)&&decide (P.cellsOf f0.type=f.size)&&f.fit P (.inl f0.type)&&r.fit P (.inr (fs,off+f.size))
 |.field f r,.inl t=>match P.underlying t with
  |some (.struct fs)=>match fs.toList with
   |f0::Ef=>decide (P.cellsOf t=f.size+r.size)&&(decide (f0.offset=0)&&decide (P.cellsOf f0.type=f.size)&&f.fit P (.inl f0.type)&&r.fit P (.inr (Ef,f.size)))
   | []=>false
  |_=>false
 |_,_=>false
theorem yx{a b:Bool}(h:(a&&b)=true):a=true∧b=true:=by simpa using h
theorem uV.spot{w:World}{a:Addr}{n:Nat}{cs:List Value}(hn:0<n)(hl:cs.length=n)(h:∀i,i<n→w.cell? (a.add i)=cs[i]?):a.spot=none:=by
 have h0:=h 0 hn;rw[bu (by omega)]at h0;exact World.cell?_spot h0
theorem ZB{H:Type}{enc:TypeId×Value→H}{P:Program}{w:World}{base:Nat}{spare:Nat→Bool}{held:Bool}(s:Sh):
  (∀(t:TypeId) (fuel:Nat) (cs:List Value) (x:DataW H×List MemPlace),s.fit P (.inl t)=true→DataW.trod enc P w base spare held fuel t cs=some x→cs.length=s.size∧∃d,Reads w s cs d)∧
  (∀(fs:List Field) (off n:Nat) (cs:List Value),s.fit P (.inr (fs,off))=true→cs.length=off+s.size→
   (∀(i:Nat) (f:Field),fs[i]?=some f→∃x,DataW.trod enc P w base spare held n f.type ((cs.drop f.offset).take (P.cellsOf f.type))=some x)→∃d,Reads w s (cs.drop off) d):=by
 induction s with
 |int k=>
  refine⟨fun t fuel cs x hf h=>?_,fun fs off n cs hf=>by simp[Sh.fit]at hf⟩;unfold Sh.fit at hf;split at hf
  ·rename_i k' hk
   have:=eX hf;subst this;obtain⟨n,rfl,_,hw⟩:=DataW.trod_int hk h;exact⟨rfl,n,rfl,hw⟩
  ·cases hf
 |bool=>
  refine⟨fun t fuel cs x hf h=>?_,fun fs off n cs hf=>by simp[Sh.fit]at hf⟩;unfold Sh.fit at hf;split at hf
  ·rename_i hk
   obtain⟨b,rfl,_⟩:=DataW.trod_bool hk h;exact⟨rfl,b,rfl⟩
  ·cases hf
 |str=>
  refine⟨fun t fuel cs x hf h=>?_,fun fs off n cs hf=>by simp[Sh.fit]at hf⟩;unfold Sh.fit at hf;split at hf
  ·rename_i hk
   obtain⟨b,rfl,_,hb⟩:=DataW.trod_string hk h;exact⟨rfl,b,rfl,hb⟩
  ·cases hf
 |slice e ih=>
  refine⟨fun t fuel cs x hf h=>?_,fun fs off n cs hf=>by simp[Sh.fit]at hf⟩;unfold Sh.fit at hf;split at hf
  ·rename_i e' hk
   obtain⟨iJ,h0⟩:=yx hf;obtain⟨vr,dG⟩:=yx iJ;have dG:=eX dG;have h0:=eX h0
   rcases open_slice hk h with ⟨rfl,_⟩ | ⟨a,len,cap,m,n,D,Pl,rfl,hb,hl,hm,hmm,_,hi⟩
   ·exact⟨rfl,[],none,0,rfl,Nat.le_refl _,by simp,fun _=>rfl,fun bf=>absurd rfl bf⟩
   ·have vq:len≤m:=by rw[hmm];split <;> omega
    have yP:∀i,i<len→∃(y:List Value×e.T),y.1.length=e.size∧w.cells? base (a.add (i*e.size)) e.size=some y.1∧Reads w e y.1 y.2:=by
     intro i pg;obtain⟨cs',h1,h2⟩:=hi i (by omega);obtain⟨h3,d,h4⟩:=ih.1 e' n cs' _ vr h2;rw[dG]at h1;exact⟨(cs',d),h3,h1,h4⟩
    obtain⟨V,hV⟩:= @choose_lt _ ⟨([],e.Lu)⟩ _ _ yP;refine⟨rfl,(List.range len).map (fun i=>(V i).2),some a,cap,by simp,by simpa using hl,hm,(fun e=>by cases e),fun bf=>?_⟩
    have th:0<len:=by
     rcases px len with h | h
     ·subst h;exact absurd rfl bf
     ·exact h
    obtain⟨b,o,spot⟩:=a
    have af3:spot=none:=by
     obtain⟨q1,q2,_⟩:=hV 0 th;obtain⟨_,q4,q5⟩:=World.cells?_some q2;have:=uV.spot (a:=(⟨b,o,spot⟩:Addr).add (0*e.size)) h0 q4 q5;unfold Addr.add at this;split at this <;> simp_all
    subst af3;refine⟨b,o,rfl,fun i hi=>?_⟩;have kS:i<len:=by simpa using hi
    obtain⟨q1,q2,q3⟩:=hV i kS;obtain⟨_,q4,q5⟩:=World.cells?_some q2;refine⟨(V i).1,q1,fun j u hu=>?_,by simpa using q3⟩;have hj:j<e.size:=by have:=(cW.1 hu).1;omega
    have:=q5 j hj;rw[Addr.add_lit,Addr.add_lit]at this;rw[this,hu]
  ·cases hf
 |nil=>
  refine⟨fun t fuel cs x hf h=>?_,fun fs off n cs hf hl _=>?_⟩
  ·unfold Sh.fit at hf;split at hf
   ·rename_i fs hk
    obtain⟨_,hz⟩:=yx hf;have hz:=eX hz;obtain⟨xs,n,_,_,hlen,_⟩:=DataW.trod_struct hk h;have:cs=[]:=fE.1 (by omega);exact⟨by simp[this,Sh.size],(),this⟩
   ·cases hf
  ·exact⟨(),List.drop_eq_nil_of_le (by simp[Sh.size]at hl;omega)⟩
 |field f r qf jH=>
  have key:∀(f0:Field) (fs:List Field) (off n:Nat) (cs:List Value),
    (decide (f0.offset=off)&&decide (P.cellsOf f0.type=f.size)&&f.fit P (.inl f0.type)&&r.fit P (.inr (fs,off+f.size)))=true→cs.length=off+(f.size+r.size)→
    (∀(i:Nat) (g:Field),(f0::fs)[i]?=some g→∃x,DataW.trod enc P w base spare held n g.type ((cs.drop g.offset).take (P.cellsOf g.type))=some x)→∃d,Reads w (.field f r) (cs.drop off) d:=by
   intro f0 fs off n cs hf hl hx;obtain⟨iJ,hr⟩:=yx hf;obtain⟨vr,hff⟩:=yx iJ;obtain⟨ho,hc⟩:=yx vr;have ho:=eX ho;have hc:=eX hc;obtain⟨x,Hi⟩:=hx 0 f0 rfl;obtain⟨xb,d1,xd⟩:=qf.1 _ _ _ _ hff Hi;obtain⟨d2,qo⟩:=jH.2 fs (off+f.size) n cs hr (by omega) (fun i g hg=>hx (i+1) g (by simpa using hg));refine⟨(d1,d2),(cs.drop f0.offset).take (P.cellsOf f0.type),cs.drop (off+f.size),?_,xb,xd,qo⟩;rw[ho,hc,← DX,A6]
  refine⟨fun t fuel cs x hf h=>?_,fun fs off n cs hf hl hx=>?_⟩
  ·unfold Sh.fit at hf;split at hf
   ·rename_i fs hk
    split at hf
    ·rename_i f0 Ef yN
     obtain⟨hz,hf'⟩:=yx hf;have hz:=eX hz;obtain⟨xs,n,_,_,hlen,yF,hg⟩:=DataW.trod_struct hk h;have hl:cs.length=0+(f.size+r.size):=by omega
     obtain⟨d,hd⟩:=key f0 Ef 0 n cs (by simpa using hf') hl (fun i g hig=>by
      have hi:fs[i]?=some g:=by rw[← A3,yN];exact hig
      have:=hg i g hi;have yL:i<xs.length:=by rw[yF];exact (y6.1 hi).1
      exact⟨xs[i],by rw[this];exact bu yL⟩)
     exact⟨by simpa [Sh.size]using hl,d,by simpa using hd⟩
    ·cases hf
   ·cases hf
  ·cases fs with
   |nil=>simp[Sh.fit]at hf
   |cons f0 Ef=>exact key f0 Ef off n cs (by simpa [Sh.fit]using hf) (by simpa [Sh.size]using hl) hx
theorem Pv{H:Type}{enc:TypeId×Value→H}{P:Program}{w:World}{base:Nat}{spare:Nat→Bool}{held:Bool}{t:TypeId}{v:Value}{d:DataW H}{p:List MemPlace}(s:Sh)(hs:s.fit P (.inl t)=true)
  (h:DataW.Trod enc P w base spare held t v d p):∃x:s.T,Reads w s v.cells.toList x:=by
 obtain⟨fuel,hf⟩:=h;exact ((ZB s).1 t fuel _ _ hs hf).2
theorem wf_u64{n:Int}(h:(Lit.int .u64 n).wf=true):0≤n∧n<18446744073709551616:=by
 have:=bounds_u64 h;omega
inductive AV where
 |int (k:IntKind) (n:Int)
 |bool (b:Bool)
 |str (s:ByteArray)
 |ae (e:Sh) (l:List e.T)
 |kj
 |gz
 |ag
 |af (b off len e:Nat)
 |cR
 |ptr (b off:Nat)
 |fQ (cs:List AV)
 |agg (cs:List AV)
 |tup (vs:List AV)
 |iface (t:TypeId) (v:AV)
 |nilif
 |fn (f:Fn) (first cap:List AV)
 |iE
 |oW
 |gi (n:Int)
 |fK (n m:Int)
 |any
 |via (v:AV)
 |mX (b:Nat)
 |nP (l:List (Int×Int))
 |nk (b:Nat)
 |r9 (m c:Nat) (seen:List Nat)
 |mh (L:Loop) (t:Nat→AV)
abbrev Hp:Type:=List (Nat×List AV)
abbrev Tm:Type:=Nat→AV
def Sh.cells:(s:Sh)→s.T→List AV
 |.int k,(n:Int)=>[.int k n]
 |.bool,(b:Bool)=>[.bool b]
 |.str,(s:ByteArray)=>[.str s]
 |.slice e,(l:List e.T)=>[.ae e l]
 |.nil,_=>[]
 |.field f r,(d:f.T×r.T)=>f.cells d.1++r.cells d.2
def AV.leaf:AV→Bool
 |.agg _ | .tup _ | .any | .nP _ | .r9 _ _ _ | .mh _ _=>false
 |_=>true
def AV.cells?:AV→Option (List AV)
 |.agg cs=>some cs
 |.tup _ | .any | .nP _ | .r9 _ _ _ | .mh _ _=>none
 |v=>some [v]
inductive TK where
 |int (k:IntKind) | bool | str | slice (e:TypeId) | ptr (e:TypeId) | bz (fs:List (Nat×TypeId)) | arr (n:Nat) (e:TypeId) | iface | func | map (k e:TypeId) | gi | fK | other
structure TI where
 k:TK
 size:Nat
 bytes:Nat
 zero:List AV
def TI.wide(i:TI):Bool:=match i.k with | .bz _ | .arr _ _=>true | _=>false
def zH:Value→AV
 |.int k n=>.int k n
 |.bool b=>.bool b
 |.string s=>.str s
 |.pointer none=>.cR
 |.slice none 0 0=>.ag
 |.nilIface=>.nilif
 |.nilFunc=>.iE
 |.map none=>.oW
 |_=>.any
def TH:Value→AV
 |.agg cs=>match (cs.toList.map zH).all AV.leaf with | true=>.agg (cs.toList.map zH) | false=>.any
 |.tuple vs=>match vs.toList with | []=>.tup [] | _=>.any
 |v=>zH v
def ev(t:Tm):Operand→AV
 |.tmp i=>t i
 |.const v=>TH v
 |.global _=>.any
 |.func f=>.fn (.func f) [] []
def put(t:Tm)(d:Option Tmp)(v:AV):Tm:=
 match d with
 |none=>t
 |some d=>fun i=>match Nat.beq i d with | true=>v | false=>t i
def Cw(b:Bool)(A B:Prop):Prop:=match b with | true=>A | false=>B
theorem cO{b:Bool}{A B:Prop}(h1:b=true→A)(h2:b=false→B):Cw b A B:=by cases b;exact h2 rfl;exact h1 rfl
theorem ai{p:Prop}[Decidable p]{A B:Prop}(h1:p→A)(h2:¬p→B):Cw (decide p) A B:=by
 by_cases h:p
 ·simp only[h,decide_true];exact h1 h
 ·simp only[h,decide_false];exact h2 h
theorem IP{b:Bool}{A B:Prop}(h:b=true)(h1:A):Cw b A B:=by subst h;exact h1
theorem Wd{b:Bool}{A B:Prop}(h:b=false)(h1:B):Cw b A B:=by subst h;exact h1
def strict(v:AV)(K:AV→Prop):Prop:=
 match v with
 |.int k n=>K (.int k n)
 |.bool b=>K (.bool b)
 |.str s=>K (.str s)
 |.ae e l=>K (.ae e l)
 |.kj=>K .kj
 |.gz=>K .gz
 |.ag=>K .ag
 |.af b o l e=>K (.af b o l e)
 |.cR=>K .cR
 |.ptr b o=>K (.ptr b o)
 |.fQ cs=>K (.fQ cs)
 |.agg cs=>K (.agg cs)
 |.tup vs=>K (.tup vs)
 |.iface t v=>K (.iface t v)
 |.nilif=>K .nilif
 |.fn f a c=>K (.fn f a c)
 |.iE=>K .iE
 |.oW=>K .oW
 |.gi n=>K (.gi n)
 |.fK n m=>K (.fK n m)
 |.any=>K .any
 |.via v=>K (.via v)
 |.mX b=>K (.mX b)
 |.nP l=>K (.nP l)
 |.nk b=>K (.nk b)
 |.r9 m c s=>K (.r9 m c s)
 |.mh L t=>K (.mh L t)
theorem xR(v:AV)(K:AV→Prop):strict v K=K v:=by cases v <;> rfl
def bV:AV→AV
 |.via v=>v
 |v=>v
structure aF(p:Prop)(X:Prop):Prop where
 fact:p
 go:X
def ef(i:TI)(cs:List AV)(off:Nat):Option AV:=
 match i.wide with
 |true=>match Nat.ble (off+i.size) cs.length with | true=>some (.agg ((cs.drop off).take i.size)) | false=>none
 |false=>cs[off]?
def fG(cs:List AV)(off:Nat):List AV→List AV
 | []=>cs
 |v::r=>fG (cs.set off v) (off+1) r
def kC(i:TI)(cs:List AV)(off:Nat)(v:AV):Option (List AV):=
 match v.cells? with
 |some vs=>match Nat.beq vs.length i.size,Nat.ble (off+i.size) cs.length with | true,true=>some (fG cs off vs) | _,_=>none
 |none=>none
inductive ec(i:TI)(σ:Hp)(b o:Nat)(K:AV→Prop):Prop where
 |mk (j:Nat) (cs:List AV) (v:AV) (h1:σ[j]?=some (b,cs)) (h2:ef i cs o=some v) (go:K v)
inductive FN(i:TI)(σ:Hp)(b o:Nat)(v:AV)(K:Hp→Prop):Prop where
 |mk (j:Nat) (cs cs':List AV) (h1:σ[j]?=some (b,cs)) (h2:kC i cs o v=some cs') (go:K (σ.set j (b,cs')))
theorem aS{i:TI}{σ:Hp}{b o:Nat}{K:AV→Prop}(j:Nat){cs:List AV}{v:AV}(h1:σ[j]?=some (b,cs))(h2:ef i cs o=some v)(go:K v):ec i σ b o K:=.mk j cs v h1 h2 go
theorem bM{i:TI}{σ:Hp}{b o:Nat}{v:AV}{K:Hp→Prop}(j:Nat){cs cs':List AV}(h1:σ[j]?=some (b,cs))(h2:kC i cs o v=some cs')(go:K (σ.set j (b,cs'))):FN i σ b o v K:=.mk j cs cs' h1 h2 go
theorem aa{i:TI}{σ:Hp}{b o:Nat}{K:AV→Prop}(j:Nat){cs:List AV}{v:AV}(go:K v)(h1:σ[j]?=some (b,cs):=by exact rfl)(h2:ef i cs o=some v:=by exact rfl):ec i σ b o K:=.mk j cs v h1 h2 go
theorem ah{i:TI}{σ:Hp}{b o:Nat}{v:AV}{K:Hp→Prop}(j:Nat){cs cs':List AV}(go:K (σ.set j (b,cs')))(h1:σ[j]?=some (b,cs):=by exact rfl)(h2:kC i cs o v=some cs':=by exact rfl):FN i σ b o v K:=.mk j cs cs' h1 h2 go
theorem a8{p q r s X:Prop}(go:X)(h1:p:=by omega)(h2:q:=by omega)(h3:r:=by omega)(h4:s:=by decide):aF (p∧q∧r∧s) X:=.mk ⟨h1,h2,h3,h4⟩ go
theorem aH{p q r X:Prop}(go:X)(h1:p:=by exact rfl)(h2:q:=by omega)(h3:r:=by omega):aF (p∧q∧r) X:=.mk ⟨h1,h2,h3⟩ go
theorem e9{p X:Prop}(go:X)(h1:p:=by omega):aF p X:=.mk h1 go
inductive aY{α:Type}(l:List α)(n:Int)(K:α→Prop):Prop where
 |mk (x:α) (h0:0≤n) (h1:l[n.toNat]?=some x) (go:K x)
def rY(SO:List (Nat×Nat))(cs:List AV):List (Nat×AV)→Option (List AV)
 | []=>some cs
 |(i,v)::r=>match SO[i]?,v.cells? with
  |some (off,size),some vs=>match Nat.beq vs.length size,Nat.ble (off+size) cs.length with | true,true=>rY SO (fG cs off vs) r | _,_=>none
  |_,_=>none
def cP(z:List AV):Nat→List AV
 | 0=>[]
 |n+1=>z++cP z n
section
variable (P:Program) (TT:TypeId→Option TI)
def BN:List (Nat×TypeId)→Option (List (Nat×Nat))
 | []=>some []
 |(off,t)::r=>match TT t,BN r with | some i,some ps=>some ((off,i.size)::ps) | _,_=>none
def F8(t:TypeId)(parts:List (Nat×AV)):Option AV:=
 match TT t with
 |some ⟨.bz fs,_,_,z⟩=>match BN TT fs with | some ps=>(rY ps z parts).map .agg | none=>none
 |some ⟨.arr n e,_,_,z⟩=>match TT e with | some i=>(rY ((List.range n).map fun j=>(j*i.size,i.size)) z parts).map .agg | none=>none
 |_=>none
def pQ(i:TI)(a:AV)(σ:Hp)(K:AV→Prop):Prop:=
 match a with
 |.fQ cs=>match ef i cs 0 with | some v=>K v | none=>False
 |.ptr b o=>ec i σ b o K
 |_=>False
def nX(b:Bool)(K:AV→Prop):Prop:=Cw b (K (.bool true)) (K (.bool false))
def zT(k:TK)(want:Bool)(x y:AV)(K:AV→Prop):Prop:=
 match k,x,y with
 |.ptr _,.cR,.cR=>K (.bool want)
 |.ptr _,.ptr _ _,.cR=>K (.bool !want)
 |.ptr _,.fQ _,.cR=>K (.bool !want)
 |.slice _,.ag,.ag=>K (.bool want)
 |.slice _,.af _ _ _ _,.ag=>K (.bool !want)
 |.slice _,.gz,.ag=>K (.bool !want)
 |.slice _,.ae _ l,.ag=>aF (0<l.length) (K (.bool !want))
 |.iface,.nilif,.nilif=>K (.bool want)
 |.iface,.iface _ _,.nilif=>K (.bool !want)
 |.func,.iE,.iE=>K (.bool want)
 |.func,.fn _ _ _,.iE=>K (.bool !want)
 |_,_,_=>False
def RW:Operand→Bool
 |.const _=>true
 |_=>false
def GO(op:BinOp)(k:IntKind)(a b:Int)(K:AV→Prop):Prop:=
 match op with
 |.add=>K (.int k (k.wrap (a+b)))
 |.sub=>K (.int k (k.wrap (a-b)))
 |.mul=>K (.int k (k.wrap (a*b)))
 |.quo=>aF (b≠0) (K (.int k (k.wrap (a.tdiv b))))
 |.rem=>aF (b≠0) (K (.int k (a.tmod b)))
 |.and | .or | .xor | .andNot=>K (.int k (bits op k a b))
 |.eql=>nX (decide (a=b)) K
 |.neq=>nX (!decide (a=b)) K
 |.lss=>nX (decide (a<b)) K
 |.leq=>nX (decide (a≤b)) K
 |.gtr=>nX (decide (b<a)) K
 |.geq=>nX (decide (b≤a)) K
 |_=>False
def FR(op:BinOp)(k:IntKind)(a b:Int)(K:AV→Prop):Prop:=
 match op with
 |.shl=>aF (0≤b) (K (.int k (k.wrap (a*2 ^ (min b.toNat k.bits)))))
 |.shr=>aF (0≤b) (K (.int k (a.fdiv (2 ^ (min b.toNat k.bits)))))
 |_=>False
def C0(op:BinOp)(t:TypeId)(y0:Operand)(x y:AV)(K:AV→Prop):Prop:=
 match x,y with
 |.int k a,.int k' b=>match op with
  |.shl | .shr=>FR op k a b K
  |_=>match decide (k=k') with | true=>GO op k a b K | false=>False
 |.bool a,.bool b=>match TT t with
  |some ⟨.bool,_,_,_⟩=>(match op with | .eql=>nX (a == b) K | .neq=>nX (!(a == b)) K | _=>False)
  |_=>False
 |.str a,.str b=>match op with | .eql=>nX (a.toList == b.toList) K | .neq=>nX (!(a.toList == b.toList)) K | _=>False
 |x,y=>match RW y0,TT t with
  |true,some i=>(match op with | .eql=>zT i.k true x y K | .neq=>zT i.k false x y K | _=>False)
  |_,_=>False
def adN:AV→AV→Bool
 |.int _ a,.int _ b=>decide (a=b)
 |.bool a,.bool b=>a == b
 |.str a,.str b=>a.toList == b.toList
 |_,_=>false
def oP(xs ys:List AV):List Bool:=List.zipWith adN xs ys
def eP(l:List Bool):Bool:=l.all id
def G1(TT:TypeId→Option TI)(rec:TypeId→AV→AV→Option (List Bool))(xs ys:List AV):List Field→Option (List Bool)
 | []=>some []
 | f :: fs => match f.name == "_", TT f.type with
  |false,some i=>match ef i xs f.offset,ef i ys f.offset with
   |some a,some b=>match rec f.type a b,G1 TT rec xs ys fs with | some l,some l'=>some (l++l') | _,_=>none
   |_,_=>none
  |_,_=>none
def G0(TT:TypeId→Option TI)(rec:TypeId→AV→AV→Option (List Bool))(e:TypeId)(c:Nat)(xs ys:List AV):List Nat→Option (List Bool)
 | []=>some []
 |k::ks=>match TT e with
  |some i=>match ef i xs (k*c),ef i ys (k*c) with
   |some a,some b=>match rec e a b,G0 TT rec e c xs ys ks with | some l,some l'=>some (l++l') | _,_=>none
   |_,_=>none
  |none=>none
def y7(P:Program)(TT:TypeId→Option TI):Nat→TypeId→AV→AV→Option (List Bool)
 | 0,_,_,_=>none
 |d+1,t,x,y=>match P.underlying t,x,y with
  |some .bool,.bool a,.bool b=>some [a == b]
  |some (.int _),.int k a,.int k' b=>(match decide (k=k') with | true=>some [decide (a=b)] | false=>none)
  |some .string,.str a,.str b=>some [a.toList == b.toList]
  |some (.struct fs),.agg xs,.agg ys=>(match P.stoodInHeld t with | true=>none | false=>G1 TT (y7 P TT d) xs ys fs.toList)
  |some (.array n e),.agg xs,.agg ys=>(match TT e with | some _=>G0 TT (y7 P TT d) e (P.cellsOf e) xs ys (List.range n) | none=>none)
  |_,_,_=>none
inductive EqAt(P:Program)(TT:TypeId→Option TI)(t:TypeId)(xs ys:List AV)(K:Bool→Prop):Prop where
 |mk (h1:P.eqGuardType P.depth t=false) (h2:y7 P TT 8 t (.agg xs) (.agg ys)=some (oP xs ys)) (go:K (eP (oP xs ys))):EqAt P TT t xs ys K
def gW(n:Int):Prop:=n.natAbs<9007199254740992
def Lv(op:BinOp)(a b c d:Int)(K:AV→Prop):Prop:=
 match op with
 |.add=>aF (gW (a+c)∧gW (b+d)) (K (.fK (a+c) (b+d)))
 |.sub=>aF (gW (a-c)∧gW (b-d)) (K (.fK (a-c) (b-d)))
 |.mul=>aF ((gW (a*c)∧gW (b*d)∧gW (a*c-b*d))∧gW (a*d)∧gW (b*c)∧gW (a*d+b*c)) (K (.fK (a*c-b*d) (a*d+b*c)))
 |_=>False
def Cu(x y:AV)(K:AV→Prop):Prop:=match x,y with | .gi a,.gi b=>K (.fK a b) | _,_=>False
def Ci(x:AV)(K:AV→Prop):Prop:=match x with | .fK a _=>K (.gi a) | _=>False
def Cj(x:AV)(K:AV→Prop):Prop:=match x with | .fK _ b=>K (.gi b) | _=>False
def C1(P:Program)(TT:TypeId→Option TI)(op:BinOp)(t:TypeId)(y0:Operand)(x y:AV)(K:AV→Prop):Prop:=
 match x,y with
 |.agg xs,.agg ys=>match op with
  |.eql=>EqAt P TT t xs ys fun b=>nX b K
  |.neq=>EqAt P TT t xs ys fun b=>nX (!b) K
  |_=>False
 |.fK a b,.fK c d=>Lv op a b c d K
 |x,y=>C0 TT op t y0 x y K
def C9(op:UnOp)(x:AV)(K:AV→Prop):Prop:=
 match op,x with
 |.not,.bool b=>K (.bool !b)
 |.neg,.int k n=>K (.int k (k.wrap (0-n)))
 |.xor,.int k n=>K (.int k (bits .xor k (if k.signed then -1 else k.max) n))
 |.neg,.gi n=>K (.gi (-n))
 |_,_=>False
def Cv(s d:TypeId)(x:AV)(K:AV→Prop):Prop:=
 match TT s,TT d,x with
 |some _,some ⟨.int k,_,_,_⟩,.int _ n=>K (.int k (k.wrap n))
 |some _,some ⟨.gi,_,_,_⟩,.int _ n=>aF (gW n) (K (.gi n))
 |some _,some ⟨.int k,_,_,_⟩,.gi n=>aF (k.min≤n∧n≤k.max) (K (.int k n))
 |_,_,_=>False
def s6:Option AV→Option Int
 |none=>some 0
 |some (.int _ n)=>some n
 |_=>none
def zZ(len:Nat):Option AV→Option Int
 |none=>some len
 |some (.int _ n)=>some n
 |_=>none
def zE(t:TypeId)(x:AV)(lo hi mx:Option AV)(K:AV→Prop):Prop:=
 match TT t,mx with
 |some ⟨.slice e,_,_,_⟩,none=>match TT e,x with
  |some i,.af b off len es=>match s6 lo,zZ len hi with
   |some l,some h=>aF (0≤l∧l≤h∧h≤len∧i.size=es) (K (.af b (off+l.toNat*es) (h.toNat-l.toNat) es))
   |_,_=>False
  |some i,.ae s xs=>match s6 lo,zZ xs.length hi with
   |some l,some h=>aF (0≤l∧l≤h∧h≤xs.length∧i.size=s.size) (K (.ae s ((xs.drop l.toNat).take (h.toNat-l.toNat))))
   |_,_=>False
  |some _,.ag=>match s6 lo,zZ 0 hi with
   |some l,some h=>aF (0≤l∧l≤h∧h≤(0:Nat)) (K .ag)
   |_,_=>False
  |_,_=>False
 |some ⟨.slice e,_,_,_⟩,some (.int _ m)=>match TT e,x,hi with
  |some i,.af b off len es,some (.int _ h)=>match s6 lo with
   |some l=>aF (0≤l∧l≤h∧h≤m∧m≤len∧i.size=es) (K (.af b (off+l.toNat*es) (h.toNat-l.toNat) es))
   |_=>False
  |_,_,_=>False
 |_,_=>False
def Bl(t:TypeId)(x ix:AV)(K:AV→Prop):Prop:=
 match TT t,ix with
 |some ⟨.slice e,_,_,_⟩,.int _ n=>match TT e,x with
  |some i,.ae s l=>aF (i.size=s.size) (aY l n fun d=>K (.fQ (s.cells d)))
  |some i,.af b off len es=>aF (i.size=es∧0≤n∧n<len) (K (.ptr b (off+n.toNat*es)))
  |_,_=>False
 |some ⟨.arr m e,_,_,_⟩,.int _ n=>match TT e,x with
  |some i,.ptr b o=>aF (0≤n∧n<m) (K (.ptr b (o+n.toNat*i.size)))
  |some i,.fQ cs=>aF (0≤n∧n<m) (K (.fQ (cs.drop (n.toNat*i.size))))
  |_,_=>False
 |_,_=>False
def getM:List (Int×Int)→Int→Option Int
 | [],_=>none
 |p::l,n=>if p.1=n then some p.2 else getM l n
def qV:List (Int×Int)→Int→Int→List (Int×Int)
 | [],n,x=>[(n,x)]
 |p::l,n,x=>if p.1=n then (n,x)::l else p::qV l n x
inductive GH(σ:Hp)(m:AV)(K:Nat→Nat→List (Int×Int)→Prop):Prop where
 |mk (j b:Nat) (l:List (Int×Int)) (hm:m=.mX b) (h1:σ[j]?=some (b,[.nP l])) (go:K j b l):GH σ m K
def Aj(t:TypeId):Option Int:=match TT t with
 |some ⟨.map k e,_,_,_⟩=>(match TT k,TT e with | some ⟨.int .i64,_,_,_⟩,some ⟨.int .i64,_,_,[.int .i64 z]⟩=>some z | _,_=>none)
 |_=>none
def BQ(t:TypeId)(m k:AV)(c:Bool)(σ:Hp)(K:AV→Prop):Prop:=
 match Aj TT t,k with
 |some z,.int .i64 n=>GH σ m fun _ _ l=>(match c with | true=>K (.tup [.int .i64 ((getM l n).getD z),.bool (getM l n).isSome]) | false=>K (.int .i64 ((getM l n).getD z)))
 |_,_=>False
def Bo(s:TypeId)(x:AV)(f:Nat)(K:AV→Prop):Prop:=
 match TT s with
 |some ⟨.bz fs,_,_,_⟩=>match fs[f]? with
  |some (off,t)=>match TT t with
   |some i=>match Nat.blt 0 i.size,x with
    |true,.ptr b o=>K (.ptr b (o+off))
    |true,.fQ cs=>K (.fQ (cs.drop off))
    |_,_=>False
   |none=>False
  |none=>False
 |_=>False
def Ca(s:TypeId)(x:AV)(f:Nat)(K:AV→Prop):Prop:=
 match TT s,x with
 |some ⟨.bz fs,_,_,_⟩,.agg cs=>match fs[f]? with
  |some (off,t)=>match TT t with | some i=>(match ef i cs off with | some v=>K v | none=>False) | none=>False
  |none=>False
 |_,_=>False
def CK(k:TK)(x:AV)(K:AV→Prop):Prop:=
 match k,x with
 |.slice _,.ae _ l=>K (.int .i64 l.length)
 |.slice _,.af _ _ len _=>K (.int .i64 len)
 |.slice _,.ag=>K (.int .i64 0)
 |.slice _,.kj=>K (.int .i64 0)
 |.slice _,.gz=>K (.int .i64 0)
 |_,_=>False
def CZ(k:TK)(x:AV)(K:AV→Prop):Prop:=
 match k,x with
 |.slice _,.ag=>K (.int .i64 0)
 |.slice _,.kj=>K (.int .i64 0)
 |_,_=>False
def CH(xs:List AV)(K:AV→Prop):Prop:=
 match xs with
 | [.int k a,.int k' b]=>match decide (k=k') with | true=>K (.int k (if b<a then b else a)) | false=>False
 |_=>False
def CI(xs:List AV)(K:AV→Prop):Prop:=
 match xs with
 | [.int k a,.int k' b]=>match decide (k=k') with | true=>K (.int k (if a<b then b else a)) | false=>False
 |_=>False
def AheadOk(t:TypeId)(m:String)(x:AV):Prop:=match x with
 |.ptr _ _=>∀(a:Addr) (w:World),(nilAhead (P.types.size+Made.depth) t (.pointer (some a)) m).run P w=.ok (some false) w
 |.agg [.ptr _ _]=>∀(a:Addr) (w:World),(nilAhead (P.types.size+Made.depth) t (.agg #[.pointer (some a)]) m).run P w=.ok (some false) w
 |_=>False
inductive eY(t:TypeId)(m:String)(x:AV)(X:Prop):Prop where
 |mk (h:AheadOk P t m x) (go:X):eY t m x X
def fB(op:Op)(ρ:Operand→AV)(σ:Hp)(K:AV→Prop):Prop:=
 match op with
 |.move x | .assign x=>strict (ρ x) K
 |.pick c a b=>match ρ c with | .bool x=>(match x with | true=>strict (ρ a) K | false=>strict (ρ b) K) | _=>False
 |.build t parts=>match F8 TT t (parts.toList.map fun p=>(p.1,ρ p.2)) with | some v=>K v | none=>False
 |.load t a=>match TT t with | some i=>pQ i (ρ a) σ K | none=>False
 |.nilCheck x=>match ρ x with | .ptr b o=>K (.ptr b o) | .fQ cs=>K (.fQ cs) | .fn (.func f) a c=>K (.fn (.func f) a c) | .fn (.method m) [.iface t v] c=>eY P t m v (K (.fn (.method m) [.iface t v] c)) | .iface t v=>K (.iface t v) | _=>False
 |.binOp op t x y _=>C1 P TT op t y (bV (ρ x)) (bV (ρ y)) K
 |.unOp op _ x=>C9 op (ρ x) K
 |.convert s d x=>Cv TT s d (ρ x) K
 |.makeInterface t x=>match TT t with | some ⟨.iface,_,_,_⟩=>False | some _=>K (.iface t (ρ x)) | none=>False
 |.makeFunc f first cap=>K (.fn f (first.toList.map ρ) (cap.toList.map ρ))
 |.slice t x lo hi mx=>zE TT t (bV (ρ x)) (lo.map fun x=>bV (ρ x)) (hi.map fun x=>bV (ρ x)) (mx.map fun x=>bV (ρ x)) K
 |.fieldAddr s x f=>Bo TT s (ρ x) f K
 |.field s x f=>Ca TT s (ρ x) f K
 |.indexAddr t x ix=>Bl TT t (bV (ρ x)) (bV (ρ ix)) K
 |.typeAssert x _ t ok=>match ok,TT t,ρ x with
  |true,some ⟨.ptr _,_,_,[.cR]⟩,.iface t' v=>(match Nat.beq t' t with | true=>K (.tup [v,.bool true]) | false=>K (.tup [.cR,.bool false]))
  |true,some ⟨.ptr _,_,_,[.cR]⟩,.nilif=>K (.tup [.cR,.bool false])
  |_,_,_=>False
 |.lookup t m k c=>BQ TT t (bV (ρ m)) (bV (ρ k)) c σ K
 |.extract x i=>match ρ x with | .tup vs=>(match vs[i]? with | some v=>K v | none=>False) | _=>False
 |.call ⟨.builtin .len,args,cS⟩=>match args.toList,cS.toList with | [x],[t]=>(match TT t with | some i=>CK i.k (bV (ρ x)) K | none=>False) | _,_=>False
 |.call ⟨.builtin .min,args,_⟩=>match args.toList with | [x,y]=>CH [ρ x,ρ y] K | _=>False
 |.call ⟨.builtin .max,args,_⟩=>match args.toList with | [x,y]=>CI [ρ x,ρ y] K | _=>False
 |.call ⟨.builtin .complex,args,_⟩=>match args.toList with | [x,y]=>Cu (ρ x) (ρ y) K | _=>False
 |.call ⟨.builtin .real,args,_⟩=>match args.toList with | [x]=>Ci (ρ x) K | _=>False
 |.call ⟨.builtin .imag,args,_⟩=>match args.toList with | [x]=>Cj (ρ x) K | _=>False
 |.call ⟨.builtin .cap,args,cS⟩=>match args.toList,cS.toList with | [x],[t]=>(match TT t with | some i=>CZ i.k (bV (ρ x)) K | none=>False) | _,_=>False
 |_=>False
end
end Go.Proofs.YtnikdflhefijbaaGreat
namespace Go.Proofs.YtnikdflhefijbaaGreat
open Ieee
def nJ(d:Datum)(N:Int):Prop:=∃s m p,d=.number s m p∧m*2 ^ p.toNat=N.natAbs*2 ^ (-p).toNat∧(N≠0→s=decide (N<0))
theorem zr(m k:Nat):m <<< k=m*2 ^ k:=Nat.shiftLeft_eq m k
theorem Wx(s:Bool)(m u:Nat):(signed s m u).natAbs=m*2 ^ u:=by
 unfold signed;rw[zr];split
 ·rw[Int.natAbs_neg,HV]
 ·rw[HV]
theorem IW{m A:Nat}{p base:Int}(h:m*2 ^ p.toNat=A*2 ^ (-p).toNat)(hb:base≤p):m*2 ^ (p-base).toNat*2 ^ base.toNat=A*2 ^ (-base).toNat:=by
 rcases DS base 0 with h0 | h0
 ·rcases DS p 0 with h1 | h1
  ·have e1:p.toNat=0:=by omega
   have e2:base.toNat=0:=by omega
   rw[e1,sy,dH]at h;rw[e2,sy,dH,h,AT,← rC]
   congr 2;omega
  ·have e1:(-p).toNat=0:=by omega
   have e2:base.toNat=0:=by omega
   have e3:(p-base).toNat=p.toNat+(-base).toNat:=by omega
   rw[e1,sy,dH]at h;rw[e2,sy,dH,e3,rC,← AT,h]
 ·have e1:(-p).toNat=0:=by omega
  have e2:(-base).toNat=0:=by omega
  rw[e1,sy,dH]at h;rw[e2,sy,dH,AT,← rC,← h]
  congr 2;omega
theorem IG{s:Bool}{m u:Nat}{N:Int}{A B:Nat}(h:m*2 ^ u*A=N.natAbs*B)(hs:N≠0→s=decide (N<0))(hA:0<A):signed s m u*(A:Int)=N*(B:Int):=by
 have h':((m*2 ^ u:Nat):Int)*(A:Int)=(N.natAbs:Int)*(B:Int):=by exact_mod_cast h
 by_cases h0:N=0
 ·subst h0
  have hm:m*2 ^ u=0:=by
   have:m*2 ^ u*A=0:=by rw[h];simp
   rcases Nat.mul_eq_zero.1 this with h1 | h1
   ·exact h1
   ·omega
  have:signed s m u=0:=Int.natAbs_eq_zero.1 (by rw[Wx,hm]);rw[this];simp
 ·have hs:=hs h0;subst hs;unfold signed;rw[zr]
  by_cases hn:N<0
  ·rw[aX hn,az rfl,Int.neg_mul,h',← Int.neg_mul]
   congr 1;omega
  ·rw[cp hn,aB (by decide),h']
   congr 1;omega
theorem pD(k:Nat):0<2 ^ k:=AU k
theorem PL{d e:Datum}{N M:Int}(hd:nJ d N)(he:nJ e M):∃x,d.sum e=some x∧nJ x (N+M):=by
 obtain⟨s,m,i,rfl,h1,h2⟩:=hd;obtain⟨t,n,j,rfl,h3,h4⟩:=he;refine⟨_,rfl,_,_,_,rfl,?_,?_⟩
 all_goals
  have e1:=IG (IW h1 (Int.min_le_left i j)) h2 (pD _);have e2:=IG (IW h3 (Int.min_le_right i j)) h4 (pD _);have e3:(signed s m (i-min i j).toNat+signed t n (j-min i j).toNat)*((2 ^ (min i j).toNat:Nat):Int)=(N+M)*((2 ^ (-(min i j)).toNat:Nat):Int):=by rw[Int.add_mul,e1,e2,Int.add_mul]
 ·have:=congrArg Int.natAbs e3;rw[HI,HI,HV,HV]at this;exact this
 ·intro bf;generalize signed s m (i-min i j).toNat+signed t n (j-min i j).toNat=T at e3;have hp:=pD (min i j).toNat;have hq:=pD (-(min i j)).toNat;generalize (2:Nat) ^ (min i j).toNat=P at e3 hp;generalize (2:Nat) ^ (-(min i j)).toNat=Q at e3 hq
  have hT:T≠0:=by
   intro h0;rw[h0,Int.zero_mul]at e3
   rcases Int.mul_eq_zero.1 e3.symm with h5 | h5
   ·exact bf h5
   ·omega
  rw[aB hT];refine decide_eq_decide.2 ⟨fun h=>?_,fun h=>?_⟩
  ·have:T*(P:Int)<0:=M7 h (by omega);rw[e3]at this
   rcases DS (N+M) 0 with h5 | h5
   ·exact h5
   ·have:=Int.mul_nonneg h5 (show (0:Int)≤Q by omega);omega
  ·have:(N+M)*(Q:Int)<0:=M7 h (by omega);rw[← e3]at this
   rcases DS T 0 with h5 | h5
   ·exact h5
   ·have:=Int.mul_nonneg h5 (show (0:Int)≤P by omega);omega
theorem PM{d:Datum}{N:Int}(h:nJ d N):nJ d.opposite (-N):=by
 obtain⟨s,m,p,rfl,h1,h2⟩:=h;refine⟨_,_,_,rfl,by rw[Int.natAbs_neg];exact h1,fun bf=>?_⟩;rw[h2 (by omega)]
 by_cases hn:N<0
 ·rw[aX hn,cp (by omega)];rfl
 ·rw[cp hn,aX (by omega)];rfl
theorem W4{d e:Datum}{N M:Int}(hd:nJ d N)(he:nJ e M):∃x,d.product e=some x∧nJ x (N*M):=by
 obtain⟨s,m,i,rfl,h1,h2⟩:=hd;obtain⟨t,n,j,rfl,h3,h4⟩:=he;refine⟨_,rfl,_,_,_,rfl,?_,fun bf=>?_⟩
 ·rw[HI];have h5:(m*2 ^ i.toNat)*(n*2 ^ j.toNat)=(N.natAbs*2 ^ (-i).toNat)*(M.natAbs*2 ^ (-j).toNat):=by rw[h1,h3]
  obtain⟨c,AN,vw⟩:∃c,i.toNat+j.toNat=(i+j).toNat+c∧(-i).toNat+(-j).toNat=(-(i+j)).toNat+c:=⟨i.toNat+j.toNat-(i+j).toNat,by omega,by omega⟩
  have e1:(m*2 ^ i.toNat)*(n*2 ^ j.toNat)=(m*n*2 ^ (i+j).toNat)*2 ^ c:=by
   rw[AT (m*n),← rC,← AN,rC];ac_rfl
  have e2:(N.natAbs*2 ^ (-i).toNat)*(M.natAbs*2 ^ (-j).toNat)=(N.natAbs*M.natAbs*2 ^ (-(i+j)).toNat)*2 ^ c:=by
   rw[AT (N.natAbs*M.natAbs),← rC,← vw,rC];ac_rfl
  rw[e1,e2]at h5;exact Nat.eq_of_mul_eq_mul_right (pD c) h5
 ·have hN:N≠0:=fun h=>bf (by rw[h,Int.zero_mul]);have hM:M≠0:=fun h=>bf (by rw[h,Int.mul_zero]);rw[h2 hN,h4 hM]
  rcases Int.lt_or_gt_of_ne hN with a | a <;> rcases Int.lt_or_gt_of_ne hM with b | b
  ·have:=Int.mul_pos_of_neg_of_neg a b;rw[aX a,aX b,cp (by omega)];rfl
  ·have:=M7 a b;rw[aX a,cp (by omega),aX this];rfl
  ·have:=Int.mul_neg_of_pos_of_neg a b;rw[cp (by omega),aX b,aX this];rfl
  ·have:=Int.mul_pos a b;rw[cp (by omega),cp (by omega),cp (by omega)];rfl
theorem Ix{A k:Nat}(h:A≠0):(A*2 ^ k).log2=A.log2+k:=by
 have bf:A*2 ^ k≠0:=Nat.mul_ne_zero h (H0.1 (pD k));refine (D0 bf).2 ⟨?_,?_⟩
 ·rw[rC];exact nt _ ((D0 h).1 rfl).1
 ·rw[show A.log2+k+1=A.log2+1+k by omega,rC];exact Nat.mul_lt_mul_of_pos_right ((D0 h).1 rfl).2 (pD k)
theorem Jc(gL:Toward)(neg:Bool){A k:Nat}(h:A≠0):gL.cut neg (A*2 ^ k) k=A:=by
 have jk:min k ((A*2 ^ k).log2+2)=k:=by rw[Ix h];omega
 unfold Toward.cut;dsimp only;rw[jk,zr,Nat.one_mul,Nat.mul_div_cancel _ (pD k),Nat.mul_mod_left];cases gL
 ·have h1:¬2 ^ k<2*0:=by simp
  have h2:((2 ^ k:Nat) == 2*0)=false:=by
   have:=pD k;simp
  simp[h2]
 ·cases neg <;> rfl
 ·cases neg <;> rfl
 ·rfl
theorem aam(gL:Toward)(neg:Bool)(k:Nat):gL.cut neg 0 k=0:=by
 unfold Toward.cut;dsimp only;have jk:1 <<< min k ((0:Nat).log2+2)≠0:=by rw[zr,Nat.one_mul];exact H0.1 (pD _)
 generalize (1:Nat) <<< min k ((0:Nat).log2+2)=g at jk;rw[Nat.zero_div,Nat.zero_mod];cases gL
 ·have h2:(g == 2*0)=false:=by simpa using jk
  simp[h2]
 ·cases neg <;> rfl
 ·cases neg <;> rfl
 ·rfl
theorem V0{d:Datum}{N:Int}(h:nJ d N):d.toInt .zero=some N:=by
 obtain⟨s,m,p,rfl,h1,h2⟩:=h
 have e:Toward.zero.cut s (m <<< p.toNat) (-p).toNat=N.natAbs:=by
  rw[zr,h1]
  by_cases h0:N=0
  ·subst h0;rw[HL,xr];exact aam _ _ _
  ·exact Jc _ _ (by omega)
 show some (signed s (Toward.zero.cut s (m <<< p.toNat) (-p).toNat) 0)=some N;rw[e]
 congr 1
 have:=IG (s:=s) (m:=N.natAbs) (u:=0) (N:=N) (A:=1) (B:=1) (by simp) h2 (by decide);simpa using this
theorem XC(s:Bool){rung:Nat}(h:rung<2 ^ 63):(double.word s rung / double.signWeight % 2 == 1)=s∧double.word s rung % double.signWeight=rung:=by
 have hw:double.signWeight=9223372036854775808:=by decide
 have h':rung<9223372036854775808:=h;unfold Format.word;rw[hw];cases s
 ·rw[aB (by decide)];refine⟨?_,by omega⟩;rw[show rung / 9223372036854775808=0 by omega];rfl
 ·rw[az rfl];refine⟨?_,by omega⟩;rw[show (9223372036854775808+rung) / 9223372036854775808=1 by omega];rfl
theorem Pw(s:Bool):double.read (double.word s 0)=.number s 0 (-1074):=by
 cases s <;> decide
theorem VM(s:Bool){L kept:Nat}(hL:L≤52)(h1:4503599627370496≤kept)(h2:kept<9007199254740992):double.read (double.word s ((L+1022)*4503599627370496+kept))=.number s kept ((L:Int)-52):=by
 have hb:double.binade=4503599627370496:=by decide
 have hi:double.infRung=9218868437227405312:=by decide
 have hl:double.leastPlace = -1074:=by decide
 obtain⟨e1,e2⟩:=XC s (rung:=(L+1022)*4503599627370496+kept) (by show _<9223372036854775808;omega);unfold Format.read;dsimp only;rw[e1,e2,hb,hi,hl,aB (by omega),az (by omega)]
 congr 1
 ·omega
 ·have:((L+1022)*4503599627370496+kept) / 4503599627370496=L+1023:=by omega
  rw[this];omega
theorem VZ{d:Datum}{N:Int}(h:nJ d N)(hN:N.natAbs<9007199254740992):nJ (double.read (double.write d)) N:=by
 obtain⟨s,m,p,rfl,h1,h2⟩:=h;have hb:double.binade=4503599627370496:=by decide
 have hi:double.infRung=9218868437227405312:=by decide
 have hl:double.leastPlace = -1074:=by decide
 show nJ (double.read (double.nearest s m p)) N
 by_cases h0:N=0
 ·subst h0
  have hm:m=0:=by
   rw[HL,xr]at h1
   rcases Nat.mul_eq_zero.1 h1 with h | h
   ·exact h
   ·exact absurd h (H0.1 (pD _))
  subst hm;have:double.nearest s 0 p=double.word s 0:=rfl;rw[this,Pw];exact⟨s,0,-1074,rfl,by rw[xr,HL,xr],fun h=>absurd rfl h⟩
 ·obtain⟨A,hA⟩:∃A,A=N.natAbs:=⟨_,rfl⟩
  rw[← hA]at h1 hN;have qt:A≠0:=by omega
  have Hx:m≠0:=by
   intro h;subst h;rw[xr]at h1
   rcases Nat.mul_eq_zero.1 h1.symm with h | h
   ·exact qt h
   ·exact absurd h (H0.1 (pD _))
  have agn:(p:Int)+m.log2=A.log2:=by
   have e:=congrArg Nat.log2 h1;rw[Ix Hx,Ix qt]at e;omega
  obtain⟨L,hL⟩:∃L,L=A.log2:=⟨_,rfl⟩
  rw[← hL]at agn;have DR:=((D0 qt).1 hL.symm).1;have hA2:=((D0 qt).1 hL.symm).2
  have agD:L≤52:=by
   refine Nat.le_of_not_lt fun h=>?_;have:2 ^ 53≤2 ^ L:=xx (by decide) h;have:(2:Nat) ^ 53=9007199254740992:=by decide
   omega
  obtain⟨K,hK⟩:∃K,K=A*2 ^ (52-L):=⟨_,rfl⟩
  have hK1:4503599627370496≤K:=by
   have:2 ^ L*2 ^ (52-L)≤K:=by rw[hK];exact nt _ DR
   rw[← rC,show L+(52-L)=52 by omega]at this;exact this
  have hK2:K<9007199254740992:=by
   have:K<2 ^ (L+1)*2 ^ (52-L):=by rw[hK];exact Nat.mul_lt_mul_of_pos_right hA2 (pD _)
   rw[← rC,show L+1+(52-L)=53 by omega]at this;exact this
  have hK0:K≠0:=by omega
  have af9:max (p+(m.log2:Int)-52) (-1074)=(L:Int)-52:=by omega
  have iG:Toward.even.cut s (m <<< (p-((L:Int)-52)).toNat) (((L:Int)-52)-p).toNat=K:=by
   rw[zr]
   rcases DS p ((L:Int)-52) with h | h
   ·have e1:(p-((L:Int)-52)).toNat=0:=by omega
    have e2:p.toNat=0:=by omega
    rw[e2,sy,dH]at h1;rw[e1,sy,dH,h1];have e3:(-p).toNat=(52-L)+(((L:Int)-52)-p).toNat:=by omega
    rw[e3,rC,← AT,← hK];exact Jc _ _ hK0
   ·have e1:(((L:Int)-52)-p).toNat=0:=by omega
    have e2:=IW h1 h;rw[show ((L:Int)-52).toNat=0 by omega,sy,dH,show (-((L:Int)-52)).toNat=52-L by omega,← hK]at e2;rw[e1,e2];have:=Jc .even s (A:=K) (k:=0) hK0;rw[sy,dH]at this;exact this
  have hn:double.nearest s m p=double.word s ((L+1022)*4503599627370496+K):=by
   unfold Format.nearest;rw[aB Hx];dsimp only;rw[hl,hb,hi];show double.word s (min ((max (p+(m.log2:Int)-52) (-1074) - -1074).toNat*4503599627370496+Toward.even.cut s (m <<< (p-max (p+(m.log2:Int)-52) (-1074)).toNat) (max (p+(m.log2:Int)-52) (-1074)-p).toNat) 9218868437227405312)=_;rw[af9,iG,show ((L:Int)-52 - -1074).toNat=L+1022 by omega];have jk:(L+1022)*4503599627370496+K≤9218868437227405312:=by omega
   exact congrArg (double.word s) (yX jk)
  have e:double.read (double.nearest s m p)=.number s K ((L:Int)-52):=(congrArg double.read hn).trans (VM s agD hK1 hK2);rw[e];refine⟨s,K,(L:Int)-52,rfl,?_,h2⟩;rw[← hA,show ((L:Int)-52).toNat=0 by omega,sy,dH,show (-((L:Int)-52)).toNat=52-L by omega];exact hK
structure je(b:Nat)(N:Int):Prop where
 lt:b<2 ^ 64
 isInt:nJ (double.read b) N
theorem Yo(N:Int):nJ (.number (decide (N<0)) N.natAbs 0) N:=⟨_,_,_,rfl,by simp,fun _=>rfl⟩
theorem EW{d:Datum}{N:Int}(h:nJ d N)(hN:N.natAbs<9007199254740992):je (double.write d) N:=⟨double.write_lt d,VZ h hN⟩
theorem adT{N:Int}(hN:N.natAbs<9007199254740992):je (Go.FloatKind.nearest .f64 N) N:=EW (Yo N) hN
theorem JY{x y:Nat}{N M:Int}(hx:je x N)(hy:je y M)(h:(N+M).natAbs<9007199254740992):∃r,floatBits .add .f64 x y=some r∧je r (N+M):=by
 obtain⟨d,e1,e2⟩:=PL hx.isInt hy.isInt;exact⟨double.write d,congrArg (Option.map double.write) e1,EW e2 h⟩
theorem JX{x y:Nat}{N M:Int}(hx:je x N)(hy:je y M)(h:(N-M).natAbs<9007199254740992):∃r,floatBits .sub .f64 x y=some r∧je r (N-M):=by
 obtain⟨d,e1,e2⟩:=PL hx.isInt (PM hy.isInt);rw[← Int.sub_eq_add_neg]at e2;exact⟨double.write d,congrArg (Option.map double.write) e1,EW e2 h⟩
theorem Fz{x y:Nat}{N M:Int}(hx:je x N)(hy:je y M)(h:(N*M).natAbs<9007199254740992):∃r,floatBits .mul .f64 x y=some r∧je r (N*M):=by
 obtain⟨d,e1,e2⟩:=W4 hx.isInt hy.isInt;exact⟨double.write d,congrArg (Option.map double.write) e1,EW e2 h⟩
theorem ac6{x:Nat}{N:Int}(hx:je x N)(k:IntKind)(h:k.min≤N∧N≤k.max):floatToIntVal .f64 x k=some N:=by
 unfold floatToIntVal;have:(FloatKind.f64.decode x).toInt .zero=some N:=V0 hx.isInt;rw[this];exact az h
theorem Jz:je 0 0:=⟨by decide,⟨false,0,-1074,Pw false,by rw[xr,HL,xr],fun h=>absurd rfl h⟩⟩
theorem Q6{b:Nat}(h:b<2 ^ 64):b ^^^ 2 ^ 63=if b<2 ^ 63 then b+2 ^ 63 else b-2 ^ 63:=by
 have e:((BitVec.ofNat 64 b) ^^^ (BitVec.ofNat 64 (2 ^ 63))).toNat=b ^^^ 2 ^ 63:=by
  rw[BitVec.toNat_xor,BitVec.toNat_ofNat,BitVec.toNat_ofNat,vI h,vI (by decide)]
 by_cases hb:b<2 ^ 63
 ·rw[az hb];have:=Nc hb 1;rw[dH]at this;rw[Nat.add_comm,this];refine D7 fun i=>?_;rw[Nat.testBit_xor,HJ,M0]
  by_cases hi:63=i
  ·subst hi;rw[y4 hb];rfl
  ·rw[decide_eq_false hi];simp
 ·rw[aB hb];obtain⟨c,rfl⟩:∃c,b=2 ^ 63+c:=⟨b-2 ^ 63,by omega⟩
  have hc:c<2 ^ 63:=by
   have:(2:Nat) ^ 64=2 ^ 63+2 ^ 63:=by decide
   omega
  have:=Nc hc 1;rw[dH]at this;rw[H5,this];refine D7 fun i=>?_;rw[Nat.testBit_xor,HJ,M0]
  by_cases hi:63=i
  ·subst hi;rw[y4 hc];rfl
  ·rw[decide_eq_false hi];simp
theorem ac5{x:Nat}{N:Int}(hx:je x N):je (Go.Op.negFloat .f64 x) (-N):=by
 have e:Go.Op.negFloat .f64 x=x ^^^ 2 ^ 63:=rfl;have ab:x<18446744073709551616:=hx.lt;have hsw:double.signWeight=9223372036854775808:=by decide
 have af7:double.read (x ^^^ 2 ^ 63)=(double.read x).opposite:=by
  rw[Q6 hx.lt];have MQ:(2:Nat) ^ 63=9223372036854775808:=by decide
  rw[MQ];unfold Format.read;dsimp only;rw[hsw]
  by_cases hb:x<9223372036854775808
  ·rw[az hb,show (x+9223372036854775808) / 9223372036854775808 % 2=1 by omega,show (x+9223372036854775808) % 9223372036854775808=x by omega,show x / 9223372036854775808 % 2=0 by omega,show x % 9223372036854775808=x by omega]
   repeat' split
   all_goals rfl
  ·rw[aB hb,show (x-9223372036854775808) / 9223372036854775808 % 2=0 by omega,show (x-9223372036854775808) % 9223372036854775808=x-9223372036854775808 by omega,show x / 9223372036854775808 % 2=1 by omega,show x % 9223372036854775808=x-9223372036854775808 by omega]
   repeat' split
   all_goals rfl
 rw[e];refine⟨?_,by rw[af7];exact PM hx.isInt⟩;rw[Q6 hx.lt];have MQ:(2:Nat) ^ 63=9223372036854775808:=by decide
 have jd:(2:Nat) ^ 64=18446744073709551616:=by decide
 rw[MQ,jd];split <;> omega
def nD(w:World)(b:Nat):Prop:=∃c T fz,w.heap[b]?=some (.cells c T fz)
def FC(F:Nat→Prop)(w:World)(b:Nat):Prop:=F b∧nD w b
def kI(F:Nat→Prop)(w:World):(s:Sh)→List Value→s.T→Prop
 |.int k,cs,(n:Int)=>cs=[.int k n]
 |.bool,cs,(b:Bool)=>cs=[.bool b]
 |.str,cs,(s:ByteArray)=>cs=[.string s]
 |.slice e,cs,(l:List e.T)=>∃(a:Option Addr) (c:Nat),cs=[.slice a l.length c]∧l.length≤c∧c≤maxLen∧(a=none→c=0)∧
   (l≠[]→∃b o,a=some ⟨b,o,none⟩∧FC F w b∧∀i,(h:i<l.length)→∃cs',cs'.length=e.size∧uV w b (o+i*e.size) cs'∧kI F w e cs' l[i])
 |.nil,cs,_=>cs=[]
 |.field f r,cs,(d:f.T×r.T)=>∃c1 c2,cs=c1++c2∧c1.length=f.size∧kI F w f c1 d.1∧kI F w r c2 d.2
def C5(w:World)(b off len e:Nat)(a:Addr)(cap:Nat):Prop:=
 ∃c T fz,w.heap[b]?=some (.cells c T fz)∧len≤cap∧cap≤maxLen∧((a=⟨b,off,none⟩∧off+cap*e≤c.size)∨(a.block=b∧a.spot=none∧len=0∧cap=0))
inductive aD(F:Nat→Prop)(w:World):AV→Value→Prop where
 |int (k:IntKind) (n:Int):aD F w (.int k n) (.int k n)
 |bool (b:Bool):aD F w (.bool b) (.bool b)
 |str (s:ByteArray):aD F w (.str s) (.string s)
 |ae (e:Sh) (l:List e.T) (v:Value) (h:kI F w (.slice e) [v] l):aD F w (.ae e l) v
 |kj (a:Option Addr):aD F w .kj (.slice a 0 0)
 |gz (a:Addr) (c:Nat) (h:c≤maxLen):aD F w .gz (.slice (some a) 0 c)
 |ag:aD F w .ag (.slice none 0 0)
 |af (b off len e:Nat) (a:Addr) (cap:Nat) (h:C5 w b off len e a cap):aD F w (.af b off len e) (.slice (some a) len cap)
 |cR:aD F w .cR (.pointer none)
 |ptr (b off:Nat) (h:nD w b):aD F w (.ptr b off) (.pointer (some ⟨b,off,none⟩))
 |fQ (cs:List AV) (b o:Nat) (f:Nat→Value) (hF:FC F w b) (h1:∀i x,cs[i]?=some x→w.cell? ⟨b,o+i,none⟩=some (f i)) (hl:∀(i:Nat) (x:AV),cs[i]?=some x→x.leaf=true) (h:∀i x,cs[i]?=some x→aD F w x (f i)):aD F w (.fQ cs) (.pointer (some ⟨b,o,none⟩))
 |agg (cs:List AV) (vs:Array Value) (hs:cs.length=vs.size) (hl:∀(i:Nat) (x:AV),cs[i]?=some x→x.leaf=true) (h:∀i x,cs[i]?=some x→aD F w x (vs.getD i undef)):aD F w (.agg cs) (.agg vs)
 |tup (cs:List AV) (vs:Array Value) (hs:cs.length=vs.size) (h:∀i x,cs[i]?=some x→aD F w x (vs.getD i undef)):aD F w (.tup cs) (.tuple vs)
 |iface (t:TypeId) (a:AV) (v:Value) (h:aD F w a v):aD F w (.iface t a) (.iface t v)
 |nilif:aD F w .nilif .nilIface
 |fn (f:Fn) (c1 c2:List AV) (v1 v2:Array Value) (fj:c1.length=v1.size) (dw:c2.length=v2.size) (h1:∀i x,c1[i]?=some x→aD F w x (v1.getD i undef)) (h2:∀i x,c2[i]?=some x→aD F w x (v2.getD i undef)):aD F w (.fn f c1 c2) (.func f v1 v2)
 |iE:aD F w .iE .nilFunc
 |oW:aD F w .oW (.map none)
 |gi (n:Int) (b:Nat) (h:je b n):aD F w (.gi n) (.float .f64 b)
 |fK (n m:Int) (a b:Nat) (h1:je a n) (h2:je b m):aD F w (.fK n m) (.complex .f64 a b)
 |any (v:Value):aD F w .any v
 |via (x:AV) (v:Value) (hl:x.leaf=true) (h:aD F w x v):aD F w (.via x) v
 |mX (b:Nat):aD F w (.mX b) (.map (some b))
 |nk (b:Nat):aD F w (.nk b) (.pointer (some ⟨b,0,none⟩))
def iS(F:Nat→Prop)(w:World)(xs:List AV)(vs:Array Value):Prop:=xs.length=vs.size∧∀i x,xs[i]?=some x→aD F w x (vs.getD i undef)
def fZ:Nat→List (Int×Int)→List MapEntry
 |_,[]=>[]
 |n,p::l=> { key:=.int .i64 p.1,val:=.int .i64 p.2,born:=n }::fZ (n+1) l
def wJ:AV→Option Obj
 |.nP l=>some (.map (fZ 0 l).toArray l.length)
 |.r9 m c s=>some (.mapIter (some m) c s.toArray c)
 |_=>none
def Cf(F:Nat→Prop)(w:World)(b:Nat)(cs:List AV):Prop:=
 ∃c T,w.heap[b]?=some (.cells c T (0,0))∧cs.length≤c.size∧∀(i:Nat) (x:AV),cs[i]?=some x→x.leaf=true∧aD F w x (c.getD i undef)
def Holds(F:Nat→Prop)(w:World)(b:Nat)(cs:List AV):Prop:=
 ¬F b∧(Cf F w b cs∨(∃x o,cs=[x]∧w.heap[b]?=some o∧wJ x=some o)∨∃L t,cs=[.mh L t]∧w.heap[b]?=some (.loop L)∧∀i,aD F w (t i) (L.tmps.getD i undef))
structure bA(F:Nat→Prop)(w:World)(σ:Hp):Prop where
 nodup:(σ.map Prod.fst).Nodup
 holds:∀p∈σ,Holds F w p.1 p.2
 low:∀b,F b→b<w.heap.size
structure bH(F:Nat→Prop)(w:World)(F':Nat→Prop)(w':World):Prop where
 os:w'.os=w.os
 tape:w'.tape=w.tape
 output:w'.output=w.output
 size:w.heap.size≤w'.heap.size
 sub:∀b,F b→F' b
 fix:∀b,F b→w'.heap[b]?=w.heap[b]?
 rows:∀(b:Nat) (c:Array Value) (T:TypeId) (fz:Nat×Nat),w.heap[b]?=some (.cells c T fz)→∃(c':Array Value) (rF:Nat×Nat),w'.heap[b]?=some (.cells c' T rF)∧c'.size=c.size
 drawn:w.drawn≤w'.drawn
def Enters(P:Program)(f:FuncId):Prop:=∀(args:Array Value) (w:World),(callFunc f args).run P w=.ok (.enter f args) w
def ACalls(P:Program)(f:FuncId)(args:List AV)(σ:Hp)(R:AV→Hp→Prop):Prop:=
 Enters P f∧∀F w vs,iS F w args vs→bA F w σ→Calls P f vs w fun e w'=>∃r v σ' F',e=.returned v∧bH F w F' w'∧bA F' w' σ'∧aD F' w' r v∧R r σ'
def pull(i:Nat)(σ:Hp):Hp:=match σ[i]? with | some p=>p::σ.eraseIdx i | none=>σ
def nG:List Nat→Hp→Hp
 | [],σ=>σ
 |i::r,σ=>pull i (nG r σ)
inductive iY:Hp→Hp→Prop where
 |refl (σ:Hp):iY σ σ
 |pull (js:List Nat) {σ σ2:Hp} (h:iY (nG js σ) σ2):iY σ σ2
 |drop (k n:Nat) {σ σ2:Hp} (h:iY (σ.take k++σ.drop (k+n)) σ2):iY σ σ2
 |perm {σ j0 σ2:Hp} (hp:j0.Perm σ) (h:iY j0 σ2):iY σ σ2
 |afW (i b':Nat) (cs kx:List AV) {σ σ2:Hp} (hi:σ[i]?=some (b',cs)) (hl:kx.length=cs.length) (hk:∀(k:Nat) (x y:AV),cs[k]?=some x→kx[k]?=some y→x=y∨(x=.ag∧∃e:Sh,y=.ae e [])) (h:iY (σ.set i (b',kx)) σ2):iY σ σ2
inductive eB(b off len es:Nat)(e:Sh)(l:List e.T):AV→AV→Prop where
 |here:eB b off len es e l (.af b off len es) (.ae e l)
 |refl (x:AV):eB b off len es e l x x
 |tup (xs ys:List AV) (h:xs.length=ys.length) (hi:∀(i:Nat) (x y:AV),xs[i]?=some x→ys[i]?=some y→eB b off len es e l x y):eB b off len es e l (.tup xs) (.tup ys)
 |agg (xs ys:List AV) (h:xs.length=ys.length) (hl:∀(i:Nat) (y:AV),ys[i]?=some y→y.leaf=true) (hi:∀(i:Nat) (x y:AV),xs[i]?=some x→ys[i]?=some y→eB b off len es e l x y):eB b off len es e l (.agg xs) (.agg ys)
 |nil (e':Sh):eB b off len es e l .ag (.ae e' [])
 |gz (e':Sh):eB b off len es e l .gz (.ae e' [])
 |via {x y:AV} (h:eB b off len es e l x y):eB b off len es e l (.via x) y
inductive CallAt(P:Program)(f:FuncId)(K:AV→Hp→Prop):List AV→Hp→Prop where
 |mk {args:List AV} {σ:Hp} (js:List Nat) (R:AV→Hp→Prop) (call:ACalls P f args (nG js σ) R) (go:∀r σ',R r σ'→K r σ'):CallAt P f K args σ
 |perm {args:List AV} {σ σ2:Hp} (R:AV→Hp→Prop) (hp:σ2.Perm σ) (call:ACalls P f args σ2 R) (go:∀r σ',R r σ'→∃ee,ee.Perm σ'∧K r ee):CallAt P f K args σ
 |cb {args args':List AV} {σ:Hp} (j b off len es:Nat) (cs:List AV) (e:Sh) (l:List e.T) (h1:σ[j]?=some (b,cs)) (h2:(cs.drop off).take (len*es)=l.flatMap e.cells) (h3:l.length=len∧e.size=es∧0<es) (h4:eB b off len es e l (.tup args) (.tup args')) (h:CallAt P f K args' (σ.eraseIdx j)):CallAt P f K args σ
 |jZ {args:List AV} {σ:Hp} (j b off len es:Nat) (cs:List AV) (e:Sh) (l:List e.T) (h1:σ[j]?=some (b,cs)) (h2:(cs.drop off).take (len*es)=l.flatMap e.cells) (h3:l.length=len∧e.size=es∧0<es) (i k b':Nat) (cs':List AV) (hi:(σ.eraseIdx j)[i]?=some (b',cs')) (hk:cs'[k]?=some (.af b off len es)) (h:CallAt P f K args ((σ.eraseIdx j).set i (b',cs'.set k (.ae e l)))):CallAt P f K args σ
inductive tc(P:Program)(f:FuncId)(args:List AV)(σ:Hp)(K:AV→Prop):Prop where
 |mk (js:List Nat) (r:AV) (call:ACalls P f args (nG js σ) (fun r' σ'=>r'=r∧σ'=nG js σ)) (go:K r):tc P f args σ K
 |perm {σ2:Hp} (hp:σ2.Perm σ) (r:AV) (call:ACalls P f args σ2 (fun r' σ'=>r'=r∧σ2.Perm σ')) (go:K r):tc P f args σ K
def Gd(P:Program)(l:Nat)(args:List AV)(σ:Hp)(R:AV→Hp→Prop):Prop:=
 ∀F w vs,iS F w args vs→bA F w σ→∃f tmps assign body,(Instr.yield l vs).run P w=.ok (.round l f tmps assign body) w∧
  RoundIn Fence.wide 0 P l f tmps assign body w fun e w'=>∃r v σ' F',e=.returned v∧bH F w F' w'∧bA F' w' σ'∧aD F' w' r v∧R r σ'
inductive wj(P:Program)(l:Nat)(K:AV→Hp→Prop):List AV→Hp→Prop where
 |mk {args:List AV} {σ:Hp} (js:List Nat) (R:AV→Hp→Prop) (call:Gd P l args (nG js σ) R) (go:∀r σ',R r σ'→K r σ'):wj P l K args σ
 |perm {args:List AV} {σ σ2:Hp} (R:AV→Hp→Prop) (hp:σ2.Perm σ) (call:Gd P l args σ2 R) (go:∀r σ',R r σ'→∃ee,ee.Perm σ'∧K r ee):wj P l K args σ
section
variable (P:Program) (TT:TypeId→Option TI)
def Meth(t:TypeId)(m:String)(g:FuncId):Prop:=
 ∀(a:Addr) (w:World),(method (P.types.size+Made.depth) t (.pointer (some a)) m).run P w=.ok (g,.pointer (some a)) w
def MethE(t:TypeId)(m:String)(g:FuncId):Prop:=
 ∀(a:Addr) (w:World),(method (P.types.size+Made.depth) t (.agg #[.pointer (some a)]) m).run P w=.ok (g,.pointer (some a)) w
def MethX(t:TypeId)(m:String)(x:AV)(g:FuncId)(r:AV):Prop:=match x with
 |.ptr b o=>Meth P t m g∧r=.ptr b o
 |.fQ cs=>Meth P t m g∧r=.fQ cs
 |.agg [.ptr b o]=>MethE P t m g∧r=.ptr b o
 |_=>False
inductive InvAt(t:TypeId)(m:String)(x:AV)(K:FuncId→AV→Prop):Prop where
 |Ax (g:FuncId) (r:AV) (h:MethX P t m x g r) (go:K g r):InvAt t m x K
theorem InvAt.mk{P:Program}{t:TypeId}{m:String}{b o:Nat}{K:FuncId→AV→Prop}(g:FuncId)(h:Meth P t m g)(go:K g (.ptr b o)):InvAt P t m (.ptr b o) K:=.Ax g _ ⟨h,rfl⟩ go
def pI(c:Call)(ρ:Operand→AV)(K:FuncId→List AV→Prop)(KY:Nat→List AV→Prop):Prop:=
 match c.callee with
 |.value f=>match ρ f with
  |.fn (.func g) first cap=>K g (first++(c.args.toList.map fun x=>bV (ρ x))++cap)
  |.fn (.yield l) [] []=>KY l (c.args.toList.map fun x=>bV (ρ x))
  |_=>False
 |.invoke r m=>match ρ r with
  |.iface t v=>InvAt P t m v fun g u=>K g (u::c.args.toList.map fun x=>bV (ρ x))
  |_=>False
 |.builtin _=>False
inductive ji(σ:Hp)(es:Nat):AV→Nat→List AV→Prop where
 |ag:ji σ es .ag 0 []
 |kj:ji σ es .kj 0 []
 |gz:ji σ es .gz 0 []
 |ae (s:Sh) (l:List s.T) (h:s.size=es):ji σ es (.ae s l) l.length (l.flatMap s.cells)
 |af (j b off len:Nat) (cs:List AV) (h1:σ[j]?=some (b,cs)) (h2:off+len*es≤cs.length):ji σ es (.af b off len es) len ((cs.drop off).take (len*es))
inductive FO(i:TI)(σ:Hp)(s x:AV)(K:AV→Hp→Prop):Prop where
 |fresh (n:Nat) (new:List AV) (hs:s=.ag∨s=.kj) (hx:ji σ i.size x n new) (hn:n≤1048576) (hb:i.bytes≤1024) (h0:0<i.size) (go:n≠0→∀b,K (.af b 0 n i.size) ((b,new)::σ)) (same:n=0→K s σ)
 |more (j b len n:Nat) (cs new:List AV) (hs:s=.af b 0 len i.size) (h1:σ[j]?=some (b,cs)) (h2:len*i.size≤cs.length) (hx:ji σ i.size x n new) (hn:len+n≤1048576) (hb:i.bytes≤1024) (h0:0<i.size)
   (go:∀b',K (.af b' 0 (len+n) i.size) ((b',cs.take (len*i.size)++new)::σ.eraseIdx j)):FO i σ s x K
 |zU (j b off len n:Nat) (cs new:List AV) (hs:s=.af b off len i.size) (h1:σ[j]?=some (b,cs)) (h2:off+len*i.size≤cs.length) (hx:ji σ i.size x n new) (hn:len+n≤1048576) (hb:i.bytes≤1024) (h0:0<i.size)
   (wP:K (.af b off (len+n) i.size) ((b,cs.take (off+len*i.size)++new)::σ.eraseIdx j))
   (go:∀b',K (.af b' 0 (len+n) i.size) ((b',(cs.drop off).take (len*i.size)++new)::σ.eraseIdx j)):FO i σ s x K
inductive AppendAt(i:TI)(σ:Hp)(s x:AV)(K:AV→Hp→Prop):Prop where
 |fresh (n:Nat) (new:List AV) (hs:s=.ag∨s=.kj) (hx:ji σ i.size x n new) (hn:n≤1048576) (hb:i.bytes≤1024) (h0:0<i.size) (go:n≠0→∀b,K (.af b 0 n i.size) ((b,new)::σ)) (same:n=0→K s σ)
 |more (j b len n:Nat) (cs new:List AV) (hs:s=.af b 0 len i.size) (h1:σ[j]?=some (b,cs)) (h2:len*i.size≤cs.length) (hx:ji σ i.size x n new) (hn:len+n≤1048576) (hb:i.bytes≤1024) (h0:0<i.size)
   (go:∀b',K (.af b' 0 (len+n) i.size) ((b',cs.take (len*i.size)++new)::σ.eraseIdx j)):AppendAt i σ s x K
 |zU (j b off len n:Nat) (cs new:List AV) (hs:s=.af b off len i.size) (h1:σ[j]?=some (b,cs)) (h2:off+len*i.size≤cs.length) (hx:ji σ i.size x n new) (hn:len+n≤1048576) (hb:i.bytes≤1024) (h0:0<i.size)
   (wP:K (.af b off (len+n) i.size) ((b,cs.take (off+len*i.size)++new)::σ.eraseIdx j))
   (go:∀b',K (.af b' 0 (len+n) i.size) ((b',(cs.drop off).take (len*i.size)++new)::σ.eraseIdx j)):AppendAt i σ s x K
 |perm {σ2:Hp} (K2:AV→Hp→Prop) (hp:σ2.Perm σ) (h:FO i σ2 s x K2) (hk:∀v ee,K2 v ee→∃sf,sf.Perm ee∧(K v sf∨(v.leaf=true∧K (.via v) sf))):AppendAt i σ s x K
inductive B2(i:TI)(σ:Hp)(s x:AV)(K:AV→Hp→Prop):Prop where
 |ag (k:IntKind) (n:Int) (hs:s=.ag) (hx:x=.int k n) (hn:0≤n∧n≤1048576) (hb:i.bytes≤1024) (h0:0<i.size) (go:0<n→∀b,K (.af b 0 n.toNat i.size) ((b,cP i.zero n.toNat)::σ)) (same:n=0→K .ag σ):B2 i σ s x K
inductive Kf(i:TI)(σ:Hp)(s:AV)(K:Hp→Prop):Prop where
 |none (hs:s=.ag∨s=.kj∨s=.gz) (go:K σ)
 |af (j b off len:Nat) (cs:List AV) (hs:s=.af b off len i.size) (h1:σ[j]?=some (b,cs)) (h2:off+len*i.size≤cs.length) (go:K (σ.set j (b,fG cs off (cP i.zero len))))
inductive KE(i:TI)(σ:Hp)(d x:AV)(K:AV→Hp→Prop):Prop where
 |af (j b off len n:Nat) (cs new:List AV) (hd:d=.af b off len i.size) (h1:σ[j]?=some (b,cs)) (h2:off+len*i.size≤cs.length) (hx:ji σ i.size x n new) (hn:n≤len) (go:K (.int .i64 n) (σ.set j (b,fG cs off new)))
 |none (new:List AV) (hd:d=.ag∨d=.kj∨d=.gz) (hx:ji σ i.size x 0 new) (go:K (.int .i64 0) σ)
 |part (j b off len:Nat) (cs:List AV) (hd:d=.af b off len i.size) (h1:σ[j]?=some (b,cs)) (h2:off+len*i.size≤cs.length) (j2 b2 mV n:Nat) (kx:List AV) (hx:x=.af b2 mV n i.size) (h3:σ[j2]?=some (b2,kx)) (h4:mV+n*i.size≤kx.length) (hn:len≤n) (go:K (.int .i64 len) (σ.set j (b,fG cs off ((kx.drop mV).take (len*i.size)))))
def zy(t:TypeId)(m k x:AV)(σ:Hp)(K:AV→Hp→Prop):Prop:=
 match Aj TT t,k,x with
 |some _,.int .i64 n,.int .i64 v=>GH σ m fun j b l=>K .any (σ.set j (b,[.nP (qV l n v)]))
 |_,_,_=>False
def FV(t:TypeId)(m:AV)(σ:Hp)(K:AV→Hp→Prop):Prop:=
 match Aj TT t with
 |some _=>GH σ m fun _ b l=>∀r,K (.nk r) ((r,[.r9 b l.length []])::σ)
 |none=>False
inductive KC(σ:Hp)(x:AV)(K:AV→Hp→Prop):Prop where
 |mk (j j2 r b:Nat) (l:List (Int×Int)) (seen:List Nat) (hx:x=.nk r) (h1:σ[j]?=some (r,[.r9 b l.length seen])) (h2:σ[j2]?=some (b,[.nP l]))
   (stop:(∀i:Nat,i<l.length→i∈seen)→K (.tup [.bool false]) σ)
   (go:∀(i:Nat) (p:Int×Int),l[i]?=some p→i ∉ seen→K (.tup [.bool true,.int .i64 p.1,.int .i64 p.2]) (σ.set j (r,[.r9 b l.length (seen++[i])]))):KC σ x K
inductive Ke(σ:Hp)(x:AV)(K:AV→Hp→Prop):Prop where
 |mk (j j2 r b i:Nat) (l:List (Int×Int)) (p:Int×Int) (seen:List Nat) (hx:x=.nk r) (h1:σ[j]?=some (r,[.r9 b l.length (seen++[i])])) (h2:σ[j2]?=some (b,[.nP l])) (h3:l[i]?=some p)
   (go:K (.tup [.int .i64 p.1,.int .i64 p.2]) σ):Ke σ x K
def gM(o:Op)(ρ:Operand→AV)(σ:Hp)(K:AV→Hp→Prop):Prop:=
 match o with
 |.box _ x=>match (ρ x).cells? with | some cs=>∀b,K (.ptr b 0) ((b,cs)::σ) | none=>False
 |.alloc e=>match TT e with | some i=>∀b,K (.ptr b 0) ((b,i.zero)::σ) | none=>False
 |.buildSlice t len parts=>match TT t with
  |some ⟨.slice e,_,_,_⟩=>match TT e with
   |some i=>match rY ((List.range len).map fun j=>(j*i.size,i.size)) (cP i.zero len) (parts.toList.map fun p=>(p.1,ρ p.2)),Nat.ble (len*i.size) 16777216,Nat.ble 1 i.size with
    |some cs,true,true=>∀b,K (.af b 0 len i.size) ((b,cs)::σ)
    |_,_,_=>False
   |none=>False
  |_=>False
 |.makeSlice t l c=>match TT t,ρ l,ρ c with
  |some ⟨.slice e,_,_,_⟩,.int _ n,.int _ m=>match TT e with
   |some i=>aF (0≤n∧n≤m∧m≤1048576∧i.bytes≤1024) (∀b,K (.af b 0 n.toNat i.size) ((b,cP i.zero n.toNat)::σ))
   |none=>False
  |_,_,_=>False
 |.store t a x=>match TT t with
  |some i=>match ρ a with | .ptr b o=>FN i σ b o (ρ x) (fun σ'=>K .any σ') | _=>False
  |none=>False
 |.makeMap t none=>match Aj TT t with | some _=>∀b,K (.mX b) ((b,[.nP []])::σ) | none=>False
 |.mapUpdate t m k x=>zy TT t (bV (ρ m)) (bV (ρ k)) (bV (ρ x)) σ K
 |.insert t m k x=>zy TT t (bV (ρ m)) (bV (ρ k)) (bV (ρ x)) σ K
 |.range t x=>FV TT t (bV (ρ x)) σ K
 |.next x s=>match s with | false=>KC σ (bV (ρ x)) K | true=>False
 |.entry x=>Ke σ (bV (ρ x)) K
 |.call ⟨.builtin .append,args,cS⟩=>match args.toList,cS.toList with
  | [s,x],[t,t']=>match TT t,TT t' with
   |some ⟨.slice e,_,_,_⟩,some ⟨.slice _,_,_,_⟩=>match TT e with | some i=>AppendAt i σ (bV (ρ s)) (bV (ρ x)) K | none=>False
   |some ⟨.slice e,_,_,_⟩,some ⟨.int _,_,_,_⟩=>match TT e with | some i=>B2 i σ (bV (ρ s)) (bV (ρ x)) K | none=>False
   |_,_=>False
  |_,_=>False
 |.call ⟨.builtin .clear,args,cS⟩=>match args.toList,cS.toList with
  | [s],[t]=>match TT t with
   |some ⟨.slice e,_,_,_⟩=>match TT e with | some i=>Kf i σ (bV (ρ s)) (fun σ'=>K (.tup []) σ') | none=>False
   |_=>False
  |_,_=>False
 |.call ⟨.builtin .copy,args,cS⟩=>match args.toList,cS.toList with
  | [d,x],[t,t']=>match TT t,TT t' with
   |some ⟨.slice e,_,_,_⟩,some ⟨.slice _,_,_,_⟩=>match TT e with | some i=>KE i σ (bV (ρ d)) (bV (ρ x)) K | none=>False
   |_,_=>False
  |_,_=>False
 |.call ⟨.builtin b,args,cS⟩=>fB P TT (.call ⟨.builtin b,args,cS⟩) ρ σ (fun v=>K v σ)
 |.call c=>pI P c ρ (fun f xs=>CallAt P f K xs σ) (fun l xs=>wj P l K xs σ)
 |o=>fB P TT o ρ σ (fun v=>K v σ)
def oF(ops:List Oper)(o:Oper)(t:Tm)(A B:Prop):Prop:=
 match o.guard with
 |none=>A
 |some (j,want)=>match (ops[j]?).bind (·.dst) with
  |some d=>match t d with
   |.bool b=>(match want,b with | true,true=>A | true,false=>B | false,true=>B | false,false=>A)
   |.tup []=>B
   |_=>False
  |none=>False
def Ui(ops:List Oper)(l:List Oper):Tm→Hp→(Tm→Hp→Prop)→Prop:=
 List.rec (motive:=fun _=>Tm→Hp→(Tm→Hp→Prop)→Prop) (fun t σ K=>K t σ)
  (fun o _ ih t σ K=>oF ops o t (gM P TT o.op (ev t) σ fun v σ'=>ih (put t o.dst v) σ' K) (ih (put t o.dst (.tup [])) σ K)) l
def uY(o:Op)(ρ:Operand→AV)(σ:Hp)(K:AV→Prop):Prop:=
 match o with
 |.call ⟨.builtin b,args,cS⟩=>fB P TT (.call ⟨.builtin b,args,cS⟩) ρ σ K
 |.call c=>pI P c ρ (fun f xs=>tc P f xs σ K) (fun _ _=>False)
 |o=>fB P TT o ρ σ K
def GL(ops:List Oper)(l:List Oper):Tm→Hp→(Tm→Prop)→Prop:=
 List.rec (motive:=fun _=>Tm→Hp→(Tm→Prop)→Prop) (fun t _ K=>K t)
  (fun o _ ih t σ K=>oF ops o t (uY P TT o.op (ev t) σ fun v=>ih (put t o.dst v) σ K) (ih (put t o.dst (.tup [])) σ K)) l
def blind:Op→Bool
 |.move _ | .assign _ | .pick .. | .build .. | .nilCheck _ | .binOp .. | .unOp .. | .convert .. | .makeInterface .. | .makeFunc .. | .slice .. | .fieldAddr .. | .field .. | .indexAddr .. | .extract .. | .typeAssert .. => true
 |.call ⟨.builtin .len,_,_⟩ | .call ⟨.builtin .min,_,_⟩ | .call ⟨.builtin .max,_,_⟩=>true
 |_=>false
def iN(ops:List Oper)(aA:List Bool):List Nat:=
 (List.range ops.length).filter fun i=> !aA.getD i true&&(match ops[i]? with | some o=>o.after.toList.all fun e=> !Region.binds .any e||aA.getD e.on false | none=>false)
def Ag(ops:List Oper)(i:Nat)(t:Tm)(σ:Hp)(K:Tm→Hp→Prop):Prop:=
 match ops[i]? with
 |some o=>oF ops o t (gM P TT o.op (ev t) σ fun v σ'=>K (put t o.dst v) σ') (K (put t o.dst (.tup [])) σ)
 |none=>False
def LA(f:Nat→Prop)(l:List Nat):Prop:=
 List.rec (motive:=fun _=>Prop) True (fun i r ih=>match r with | []=>f i | _=>f i∧ih) l
def sX:Op→Bool
 |.load _ _=>true
 |_=>false
def nU(o:Op):Bool:= !(blind o||sX o)
def pK(o:Oper)(j:Nat):Bool:=o.after.toList.any fun e=>Region.binds .any e&&Nat.beq e.on j
def aeR(ops:List Oper)(aA:List Bool)(i:Nat):Bool:=ops.zipIdx.all fun (o,j)=> !nU o.op||aA.getD j false||pK o i
def Km(ops:List Oper)(aA:List Bool)(i:Nat):Bool:=
 match ops[i]? with
 |some o=>blind o.op||(sX o.op&&aeR ops aA i)
 |none=>false
def uT(ops:List Oper)(n:Nat):List Bool→Tm→Hp→(Tm→Hp→Prop)→Prop:=
 Nat.rec (motive:=fun _=>List Bool→Tm→Hp→(Tm→Hp→Prop)→Prop) (fun _ _ _ _=>False)
  (fun _ ih aA t σ K=>match iN ops aA with
   | []=>K t σ
   |i::r=>match (i::r).find? (Km ops aA) with
    |some j=>Ag P TT ops j t σ fun t' σ'=>ih (aA.set j true) t' σ' K
    |none=>LA (fun j=>Ag P TT ops j t σ fun t' σ'=>ih (aA.set j true) t' σ' K) (i::r)) n
theorem P8{ops:List Oper}{n:Nat}{aA:List Bool}{t:Tm}{σ:Hp}{K:Tm→Hp→Prop}:uT P TT ops (n+1) aA t σ K=(match iN ops aA with
   | []=>K t σ
   |i::r=>match (i::r).find? (Km ops aA) with
    |some j=>Ag P TT ops j t σ fun t' σ'=>uT P TT ops n (aA.set j true) t' σ' K
    |none=>LA (fun j=>Ag P TT ops j t σ fun t' σ'=>uT P TT ops n (aA.set j true) t' σ' K) (i::r)):=rfl
def x8(ops:List Oper)(o:Oper):List Tmp:=
 (o.op.operands.toList.filterMap fun | .tmp t=>some t | _=>none)++(match o.guard with | some (g,_)=>((ops[g]?).bind (·.dst)).toList | none=>[])
def Fq(ops:List Oper):Bool:=
 let z:=ops.zipIdx
 z.all fun (o,i)=>
  (o.after.toList.all fun e=> !Region.binds .any e||Nat.blt e.on i) &&
  (z.all fun (p,j)=>match p.dst with
   |none=>true
   |some d=>(Nat.beq i j||match o.dst with | some d'=> !Nat.beq d d' | none=>true) &&
    (!(x8 ops o).any (Nat.beq d)||Nat.beq i j||(Nat.blt j i&&pK o j)||(Nat.blt i j&&pK p i)))
def rN(ops:List Oper):Bool:=
 let z:=ops.zipIdx
 z.all fun (o,i)=>(match o.op with | .select .. => false | _=>true)&&z.all fun (p,j)=>Nat.beq i j||pK o j||pK p i||o.apart ops.toArray p
def mr(g:Tm):List (Nat×AV)→Tm
 | []=>g
 |(i,v)::r=>fun j=>match Nat.beq j i with | true=>v | false=>mr g r j
def agree(t:Tm):List (Nat×AV)→Prop
 | []=>True
 |(i,v)::r=>t i=v∧agree t r
theorem zm{t:Tm}{l:List (Nat×AV)}(h:agree t l):t=mr t l:=by
 induction l with
 |nil=>rfl
 |cons p r ih=>
  obtain⟨i,v⟩:=p;obtain⟨h1,h2⟩:=h
  funext j
  show t j=(match Nat.beq j i with | true=>v | false=>mr t r j);cases hb:Nat.beq j i with
  |true=>rw[ju hb];exact h1
  |false=>exact congrFun (ih h2) j
inductive cX{S:Type}(L:S→List (Nat×AV))(H:S→Hp)(t':Tm)(σ':Hp):Prop where
 |mk (s:S) (h3:agree t' (L s)) (h4:iY σ' (H s)):cX L H t' σ'
def jB(ops:List Oper)(q:Bool)(i:Nat)(t:Tm)(σ:Hp)(K:Tm→Hp→Prop):Prop:=
 match ops[i]? with
 |some o=>match q with
  |true=>oF ops o t (uY P TT o.op (ev t) σ fun v=>K (put t o.dst v) σ) (K (put t o.dst (.tup [])) σ)
  |false=>oF ops o t (gM P TT o.op (ev t) σ fun v σ'=>K (put t o.dst v) σ') (K (put t o.dst (.tup [])) σ)
 |none=>False
def eV(j:Nat)(l:List Nat):Bool:=l.any (Nat.beq j)
def pZ(ops:List Oper)(Q:List Nat)(n:Nat):List Bool→Tm→Hp→(Tm→Hp→Prop)→Prop:=
 Nat.rec (motive:=fun _=>List Bool→Tm→Hp→(Tm→Hp→Prop)→Prop) (fun _ _ _ _=>False)
  (fun _ ih aA t σ K=>(iN ops aA=[]→K t σ)∧∀i∈iN ops aA,jB P TT ops (eV i Q) i t σ fun t' σ'=>ih (aA.set i true) t' σ' K) n
def Lb(o:Oper)(acc:List (List Nat)):List Nat:=o.after.toList.flatMap fun e=>match Region.binds .any e with | true=>e.on::(acc[e.on]?).getD [] | false=>[]
def KG:List Oper→List (List Nat)→List (List Nat)
 | [],acc=>acc
 |o::os,acc=>KG os (acc++[(Lb o acc).eraseDups])
def uQ(ops:List Oper)(Q:List Nat)(k:Nat):Bool:=match ops[k]? with | some o=>nU o.op&&!eV k Q | none=>false
def Gp:Op→Bool
 |.alloc _ | .box _ _=>true
 |_=>false
def CG(ops:List Oper)(k:Nat):Bool:=match ops[k]? with | some o=>Gp o.op | none=>false
def zL(ops:List Oper)(rows:List (List Nat))(Q:List Nat)(aA:List Bool)(j:Nat):Bool:=
 match ops[j]? with
 |some o=>(blind o.op&&!eV j Q)||((sX o.op||eV j Q)&&(List.range ops.length).all fun k=>aA.getD k false||!uQ ops Q k||eV j ((rows[k]?).getD [])||(sX o.op&&!eV j Q&&CG ops k))
 |none=>false
inductive nu where
 |stop
 |one (j:Nat) (q:Bool) (s:nu)
 |alt (j:Nat) (s r:nu)
 |Ao (j:Nat) (s r:nu)
def kl (l : List Nat) (r : nu) : nu := l.foldr (fun i s => .one i false s) r
def ca (l : List Nat) : nu := kl l .stop
def kY(ops:List Oper)(rows:List (List Nat))(Q:List Nat):nu→Nat→List Nat→List Bool→Bool
 |.stop,n,mU,aA=>match n,mU,iN ops aA with | _+1,[],[]=>true | _,_,_=>false
 |.one j q s,n,mU,aA=>match n,mU with
  |n+1,[]=>(eV j Q == q)&&eV j (iN ops aA)&&(zL ops rows Q aA j||(match iN ops aA with | [i]=>Nat.beq i j | _=>false))&&kY ops rows Q s n [] (aA.set j true)
  |n,[i]=>(eV j Q == q)&&Nat.beq i j&&kY ops rows Q s n [] (aA.set j true)
  |_,_=>false
 |.alt j s r,n,mU,aA=>match n,mU with
  |n+1,[]=>(match iN ops aA with
   |i::i2::l=>Nat.beq i j&&!eV j Q&&kY ops rows Q s n [] (aA.set j true)&&kY ops rows Q r n (i2::l) aA
   |_=>false)
  |n,i::i2::l=>Nat.beq i j&&!eV j Q&&kY ops rows Q s n [] (aA.set j true)&&kY ops rows Q r n (i2::l) aA
  |_,_=>false
 |.Ao j s r,n,mU,aA=>match n,mU with
  |n+1,[]=>(match iN ops aA with
   |i::i2::l=>Nat.beq i j&&eV j Q&&kY ops rows Q s n [] (aA.set j true)&&kY ops rows Q r n (i2::l) aA
   |_=>false)
  |n,i::i2::l=>Nat.beq i j&&eV j Q&&kY ops rows Q s n [] (aA.set j true)&&kY ops rows Q r n (i2::l) aA
  |_,_=>false
def uI(ops:List Oper)(s:nu):Tm→Hp→(Tm→Hp→Prop)→Prop:=
 nu.rec (motive:=fun _=>Tm→Hp→(Tm→Hp→Prop)→Prop) (fun t σ K=>K t σ)
  (fun j q _ ih t σ K=>jB P TT ops q j t σ fun t' σ'=>ih t' σ' K)
  (fun j _ _ ih jH t σ K=>jB P TT ops false j t σ (fun t' σ'=>ih t' σ' K)∧jH t σ K)
  (fun j _ _ ih jH t σ K=>jB P TT ops true j t σ (fun t' σ'=>ih t' σ' K)∧jH t σ K) s
def afm:Op→Bool
 |.call ⟨.builtin _,_,_⟩=>false
 |.call _=>true
 |_=>false
def FX(ops:List Oper)(Q:List Nat)(s:nu):Bool:=
 rN ops&&Q.all (fun j=>match ops[j]? with | some o=>afm o.op | none=>false)&&kY ops (KG ops []) Q s (ops.length+1) [] (List.replicate ops.length false)
inductive gn(ops:List Oper)(K:Tm→Hp→Prop):Tm→Hp→Prop where
 |quiet {t:Tm} {σ:Hp} (h0:Fq ops=true) (h:GL P TT ops ops t σ fun t'=>K t' σ):gn ops K t σ
 |each {t:Tm} {σ:Hp} (h0:rN ops=true) (h:uT P TT ops (ops.length+1) (List.replicate ops.length false) t σ K):gn ops K t σ
 |sched {t:Tm} {σ:Hp} (Q:List Nat) (s:nu) (h0:FX ops Q s=true) (h:uI P TT ops s t σ K):gn ops K t σ
 |meet {t:Tm} {σ:Hp} {S:Type} (L:S→List (Nat×AV)) (H:S→Hp) (h0:rN ops=true) (h:uT P TT ops (ops.length+1) (List.replicate ops.length false) t σ (cX L H)) (go:∀s g,K (mr g (L s)) (H s)):gn ops K t σ
 |Gm {t:Tm} {σ:Hp} {S:Type} (Q:List Nat) (s:nu) (L:S→List (Nat×AV)) (H:S→Hp) (h0:FX ops Q s=true) (h:uI P TT ops s t σ (cX L H)) (go:∀s g,K (mr g (L s)) (H s)):gn ops K t σ
 |cb {t t':Tm} {σ:Hp} (j b off len es:Nat) (cs:List AV) (e:Sh) (l:List e.T) (h1:σ[j]?=some (b,cs)) (h2:(cs.drop off).take (len*es)=l.flatMap e.cells) (h3:l.length=len∧e.size=es∧0<es) (h4:∀i,eB b off len es e l (t i) (t' i)) (h:gn ops K t' (σ.eraseIdx j)):gn ops K t σ
 |dT {t:Tm} {σ σ2:Hp} (h1:iY σ σ2) (h:gn ops K t σ2):gn ops K t σ
inductive Ex where
 |normal | exit (id:Nat) | goto (l:Nat) | ret
def Head{S:Type}(L:S→List (Nat×AV))(H:S→Hp)(p:S→Prop)(μ:S→Nat)(m:Nat)(t:Tm)(σ:Hp):Prop:=∃s g,m=μ s∧p s∧t=mr g (L s)∧σ=H s
inductive oR{S:Type}(L:S→List (Nat×AV))(H:S→Hp)(p:S→Prop)(μ:S→Nat)(s:S):Tm→Hp→Prop where
 |mk {t':Tm} {σ':Hp} (s':S) (h1:μ s'<μ s) (h2:p s') (h3:agree t' (L s')) (h4:iY σ' (H s')):oR L H p μ s t' σ'
 |cb {t' t2:Tm} {σ':Hp} (j b off len es:Nat) (cs:List AV) (e:Sh) (l:List e.T) (h1:σ'[j]?=some (b,cs)) (h2:(cs.drop off).take (len*es)=l.flatMap e.cells) (h3:l.length=len∧e.size=es∧0<es) (h4:∀i,eB b off len es e l (t' i) (t2 i)) (h:oR L H p μ s t2 (σ'.eraseIdx j)):oR L H p μ s t' σ'
 |jZ {t':Tm} {σ':Hp} (j b off len es:Nat) (cs:List AV) (e:Sh) (l:List e.T) (h1:σ'[j]?=some (b,cs)) (h2:(cs.drop off).take (len*es)=l.flatMap e.cells) (h3:l.length=len∧e.size=es∧0<es) (i k b':Nat) (cs':List AV) (hi:(σ'.eraseIdx j)[i]?=some (b',cs')) (hk:cs'[k]?=some (.af b off len es)) (h:oR L H p μ s t' ((σ'.eraseIdx j).set i (b',cs'.set k (.ae e l)))):oR L H p μ s t' σ'
 |dT {t':Tm} {σ' σ2:Hp} (h1:iY σ' σ2) (h:oR L H p μ s t' σ2):oR L H p μ s t' σ'
 |nil {t' t2:Tm} {σ':Hp} (h4:∀i,eB 0 0 0 0 .bool [] (t' i) (t2 i)) (h:oR L H p μ s t2 σ'):oR L H p μ s t' σ'
inductive mj(body:Tm→Hp→(Ex→Tm→Hp→Prop)→Prop)(Q:Ex→Tm→Hp→Prop):Tm→Hp→Prop where
 |mk {t:Tm} {σ:Hp} {S:Type} (L:S→List (Nat×AV)) (H:S→Hp) (p:S→Prop) (μ:S→Nat) (s0:S) (h0:p s0∧agree t (L s0)∧σ=H s0)
   (round:∀s g,p s→body (mr g (L s)) (H s) (fun e t' σ'=>match e with | .normal=>oR L H p μ s t' σ' | e=>Q e t' σ')):mj body Q t σ
 |cb {t t':Tm} {σ:Hp} (j b off len es:Nat) (cs:List AV) (e:Sh) (l:List e.T) (h1:σ[j]?=some (b,cs)) (h2:(cs.drop off).take (len*es)=l.flatMap e.cells) (h3:l.length=len∧e.size=es∧0<es) (h4:∀i,eB b off len es e l (t i) (t' i)) (h:mj body Q t' (σ.eraseIdx j)):mj body Q t σ
 |dT {t:Tm} {σ σ2:Hp} (h1:iY σ σ2) (h:mj body Q t σ2):mj body Q t σ
 |wrap {t:Tm} {σ:Hp} (k:Nat) (v:AV) (h1:t k=v) (h2:v.leaf=true) (h:mj body Q (mr t [(k,.via v)]) σ):mj body Q t σ
 |nil {t t':Tm} {σ:Hp} (h4:∀i,eB 0 0 0 0 .bool [] (t i) (t' i)) (h:mj body Q t' σ):mj body Q t σ
def TX(R:Nat→Tm→Hp→(Ex→Tm→Hp→Prop)→Prop)(k:Nat):Nat→Tm→Hp→(Ex→Tm→Hp→Prop)→Prop:=
 Nat.rec (motive:=fun _=>Nat→Tm→Hp→(Ex→Tm→Hp→Prop)→Prop) (fun _ _ _ _=>False)
  (fun _ ih l t σ Q=>R l t σ fun e t' σ'=>match e with | .goto l'=>ih l' t' σ' Q | e=>Q e t' σ') k
inductive qR{S:Type}(fS:S→Nat)(L:S→List (Nat×AV))(H:S→Hp)(p:S→Prop)(μ:S→Nat)(s:S)(l:Nat):Tm→Hp→Prop where
 |mk {t':Tm} {σ':Hp} (s':S) (h0:l=fS s') (h1:μ s'<μ s) (h2:p s') (h3:agree t' (L s')) (h4:iY σ' (H s')):qR fS L H p μ s l t' σ'
 |cb {t' t2:Tm} {σ':Hp} (j b off len es:Nat) (cs:List AV) (e:Sh) (d:List e.T) (h1:σ'[j]?=some (b,cs)) (h2:(cs.drop off).take (len*es)=d.flatMap e.cells) (h3:d.length=len∧e.size=es∧0<es) (h4:∀i,eB b off len es e d (t' i) (t2 i)) (h:qR fS L H p μ s l t2 (σ'.eraseIdx j)):qR fS L H p μ s l t' σ'
 |jZ {t':Tm} {σ':Hp} (j b off len es:Nat) (cs:List AV) (e:Sh) (d:List e.T) (h1:σ'[j]?=some (b,cs)) (h2:(cs.drop off).take (len*es)=d.flatMap e.cells) (h3:d.length=len∧e.size=es∧0<es) (i k b':Nat) (cs':List AV) (hi:(σ'.eraseIdx j)[i]?=some (b',cs')) (hk:cs'[k]?=some (.af b off len es)) (h:qR fS L H p μ s l t' ((σ'.eraseIdx j).set i (b',cs'.set k (.ae e d)))):qR fS L H p μ s l t' σ'
 |dT {t':Tm} {σ' σ2:Hp} (h1:iY σ' σ2) (h:qR fS L H p μ s l t' σ2):qR fS L H p μ s l t' σ'
 |nil {t' t2:Tm} {σ':Hp} (h4:∀i,eB 0 0 0 0 .bool [] (t' i) (t2 i)) (h:qR fS L H p μ s l t2 σ'):qR fS L H p μ s l t' σ'
inductive qS(R:Nat→Tm→Hp→(Ex→Tm→Hp→Prop)→Prop)(l:Nat)(Q:Ex→Tm→Hp→Prop):Tm→Hp→Prop where
 |fwd {t:Tm} {σ:Hp} (k:Nat) (h:TX R k l t σ Q):qS R l Q t σ
 |loop {t:Tm} {σ:Hp} {S:Type} (fS:S→Nat) (L:S→List (Nat×AV)) (H:S→Hp) (p:S→Prop) (μ:S→Nat) (s0:S) (h0:l=fS s0∧p s0∧agree t (L s0)∧iY σ (H s0))
   (round:∀s g,p s→R (fS s) (mr g (L s)) (H s) (fun e t' σ'=>match e with | .goto l'=>qR fS L H p μ s l' t' σ' | e=>Q e t' σ')):qS R l Q t σ
 |cb {t t':Tm} {σ:Hp} (j b off len es:Nat) (cs:List AV) (e:Sh) (d:List e.T) (h1:σ[j]?=some (b,cs)) (h2:(cs.drop off).take (len*es)=d.flatMap e.cells) (h3:d.length=len∧e.size=es∧0<es) (h4:∀i,eB b off len es e d (t i) (t' i)) (h:qS R l Q t' (σ.eraseIdx j)):qS R l Q t σ
 |dT {t:Tm} {σ σ2:Hp} (h1:iY σ σ2) (h:qS R l Q t σ2):qS R l Q t σ
 |wrap {t:Tm} {σ:Hp} (k:Nat) (v:AV) (h1:t k=v) (h2:v.leaf=true) (h:qS R l Q (mr t [(k,.via v)]) σ):qS R l Q t σ
def K5(l:Nat)(rd:AV)(dn:Ex→AV)(R1:Ex→Hp→Prop)(r:AV)(σ':Hp):Prop:=
 (r=.bool true∧∃σ2,σ'=(l,[rd])::σ2∧R1 .normal σ2)∨(r=.bool false∧∃e σ2,e≠.normal∧σ'=(l,[dn e])::σ2∧R1 e σ2)
def aeP(l:Nat)(rd:AV)(dn:Ex→AV)(K:Ex→Hp→Prop)(_:AV)(σ':Hp):Prop:=
 (∃σ2,σ'=(l,[rd])::σ2∧K .normal σ2)∨(∃e σ2,e≠.normal∧σ'=(l,[dn e])::σ2∧K e σ2)
inductive zR(P:Program)(gf:FuncId)(cap:List AV)(m:Nat)(B:List AV→Hp→(Ex→Hp→Prop)→Prop)(K:Ex→Hp→Prop):Hp→Prop where
 |mk {σ:Hp} (go:∀(l:Nat) (rd:AV) (dn:Ex→AV),(∀(xs:List AV) (j0:Hp) (R1:Ex→Hp→Prop),xs.length=m→B xs j0 R1→Gd P l xs ((l,[rd])::j0) (K5 l rd dn R1))→
   ACalls P gf (.fn (.yield l) [] []::cap) ((l,[rd])::σ) (aeP l rd dn K)):zR P gf cap m B K σ
 |dT {σ σ2:Hp} (h1:iY σ σ2) (h:zR P gf cap m B K σ2):zR P gf cap m B K σ
def Au:List Tmp→List AV→Tm→Tm
 |p::ps,x::xs,t=>Au ps xs (put t (some p) x)
 |_,_,t=>t
def codeF(rec:Code→Tm→Hp→(Ex→Tm→Hp→Prop)→Prop)(c:Code)(t:Tm)(σ:Hp)(Q:Ex→Tm→Hp→Prop):Prop:=
 match c with
 |.skip=>Q .normal t σ
 |.label _=>Q .normal t σ
 |.exit id=>Q (.exit id) t σ
 |.goto l=>Q (.goto l) t σ
 |.ret=>Q .ret t σ
 |.region _ ops draw=>match draw with
  |false=>Ui P TT ops.toList ops.toList t σ (Q .normal)
  |true=>gn P TT ops.toList (Q .normal) t σ
 |.seq a b=>rec a t σ fun e t' σ'=>match e with | .normal=>rec b t' σ' Q | e=>Q e t' σ'
 |.cond c a b=>match ev t c with | .bool x=>(match x with | true=>rec a t σ Q | false=>rec b t σ Q) | _=>False
 |.block id c=>rec c t σ fun e t' σ'=>match e with
  |.exit i=>(match Nat.beq i id with | true=>Q .normal t' σ' | false=>Q (.exit i) t' σ')
  |e=>Q e t' σ'
 |.loop c=>mj (fun t σ Q=>rec c t σ Q) Q t σ
 |.scope c=>rec c t σ fun e t' σ'=>match e with
  |.goto l=>qS (fun l t σ Q=>match findLabel c l with | some r=>rec r t σ Q | none=>False) l Q t' σ'
  |e=>Q e t' σ'
 |.rangeFunc g ps assign body=>match ev t g with
  |.fn (.func gf) [] cap=>zR P gf cap ps.size (fun xs j0 R1=>rec assign (Au ps.toList xs t) j0 fun e t' σ'=>match e with | .normal=>rec body t' σ' (fun e _ kg=>R1 e kg) | _=>False) (fun e σ'=>Q e t σ') σ
  |_=>False
 |_=>False
def mi(n:Nat):Code→Tm→Hp→(Ex→Tm→Hp→Prop)→Prop:=
 Nat.rec (motive:=fun _=>Code→Tm→Hp→(Ex→Tm→Hp→Prop)→Prop) (fun _ _ _ _=>False) (fun _ ih=>codeF P TT ih) n
end
def td:List (Int×Int)→Int→Nat
 | [],_=>0
 |p::l,n=>if p.1=n then 0 else td l n+1
theorem Jy:∀(l:List (Int×Int)) (m i:Nat),(fZ m l)[i]?=(l[i]?).map fun p=> { key:=.int .i64 p.1,val:=.int .i64 p.2,born:=m+i }
 | [],_,_=>by simp[fZ]
 |p::l,m,0=>by simp[fZ]
 |p::l,m,i+1=>by
  simp only[fZ,List.getElem?_cons_succ];rw[Jy l (m+1) i];simp[Nat.add_assoc,Nat.add_comm 1 i]
theorem Iy(n:Int):∀(l:List (Int×Int)) (m i:Nat),Instr.findNow (.int .i64) (.int .i64 n) (fZ m l) i=some ((getM l n).map fun v=>(i+td l n,.int .i64 v))
 | [],_,_=>rfl
 |p::l,m,i=>by
  have ih:=Iy n l (m+1) (i+1);unfold fZ Instr.findNow;simp only[Instr.sameNow,if_true]
  by_cases h:p.1=n
  ·rw[show (n == p.1)=true by simp[h]];simp[getM,td,h]
  ·rw[show (n == p.1)=false by simp;exact fun e=>h e.symm];simp only[ih,getM,td,aB h]
   congr 1
   cases getM l n with
   |none=>rfl
   |some v=>simp[Nat.add_assoc,Nat.add_comm 1]
theorem pos_at:∀(l:List (Int×Int)) (n v:Int),getM l n=some v→l[td l n]?=some (n,v)∧∀x,qV l n x=l.set (td l n) (n,x)
 | [],_,_,h=>by cases h
 |p::l,n,v,h=>by
  by_cases hp:p.1=n
  ·simp only[getM,az hp,Option.some.injEq]at h;simp only[td,az hp,qV];refine⟨?_,fun x=>rfl⟩;rw[← hp,← h];rfl
  ·simp only[getM,aB hp]at h;obtain⟨h1,h2⟩:=pos_at l n v h;simp only[td,aB hp,qV];exact⟨h1,fun x=>by rw[h2];rfl⟩
theorem RP:∀(l:List (Int×Int)) (n x:Int),getM l n=none→qV l n x=l++[(n,x)]
 | [],_,_,_=>rfl
 |p::l,n,x,h=>by
  by_cases hp:p.1=n
  ·simp only[getM,az hp]at h;cases h
  ·simp only[getM,aB hp]at h;simp only[qV,aB hp,RP l n x h];rfl
theorem PI:∀(l:List (Int×Int)) (m:Nat) (p:Int×Int),fZ m (l++[p])=fZ m l++[{ key:=.int .i64 p.1,val:=.int .i64 p.2,born:=m+l.length }]
 | [],_,_=>rfl
 |q::l,m,p=>by
  simp only[AW,fZ,PI l (m+1) p,gH];rw[show m+1+l.length=m+(l.length+1) by omega]
theorem QV:∀(l:List (Int×Int)) (m i:Nat) (p:Int×Int),fZ m (l.set i p)=(fZ m l).modify i fun e=> { e with key:=.int .i64 p.1,val:=.int .i64 p.2 }
 | [],_,_,_=>by simp[fZ]
 |q::l,m,0,p=>by simp[fZ]
 |q::l,m,i+1,p=>by simp[fZ,QV l (m+1) i p]
section
variable {P:Program} {w:World} {t k e:TypeId} {b:Nat} {l:List (Int×Int)}
theorem VI(ht:P.underlying t=some (.map k e))(hk:P.underlying k=some (.int .i64)){z:Int}(hz:(zeroValue e).run P w=.ok (.int .i64 z) w)(hb:w.heap[b]?=some (.map (fZ 0 l).toArray l.length))(n:Int)(c:Bool):
  (Instr.lookup t (.map (some b)) (.int .i64 n) c).run P w=.ok (if c then .tuple #[.int .i64 ((getM l n).getD z),.bool (getM l n).isSome] else .int .i64 ((getM l n).getD z)) w:=by
 have hf:=Iy n l 0 0;have Al:MapKept.IsKey (.int .i64) (.int .i64 n):=by simp[MapKept.IsKey]
 cases h:getM l n with
 |none=>
  rw[h]at hf;simp[Instr.lookup,run_underlying ht,MapKept.run_getObj_map hb,MapKept.run_checkKey hk Al,MapKept.run_findKey hk hf,hz,Result.andThen]
 |some v=>
  rw[h]at hf;simp[Instr.lookup,run_underlying ht,MapKept.run_getObj_map hb,MapKept.run_checkKey hk Al,MapKept.run_findKey hk hf,Result.andThen]
theorem VH(ht:P.underlying t=some (.map k e))(hk:P.underlying k=some (.int .i64))(hb:w.heap[b]?=some (.map (fZ 0 l).toArray l.length))(n x:Int):
  (Instr.mapUpdate t (.map (some b)) (.int .i64 n) (.int .i64 x)).run P w=.ok () { w with heap:=w.heap.setIfInBounds b (.map (fZ 0 (qV l n x)).toArray (qV l n x).length) }:=by
 have hf:=Iy n l 0 0;have Al:MapKept.IsKey (.int .i64) (.int .i64 n):=by simp[MapKept.IsKey]
 cases h:getM l n with
 |none=>
  rw[h]at hf;rw[RP l n x h,PI];simp[Instr.mapUpdate,run_underlying ht,MapKept.run_getObj_map hb,MapKept.run_checkKey hk Al,MapKept.run_findKey hk hf,MapKept.run_setObj_map _ hb,Result.andThen]
 |some v=>
  rw[h]at hf;obtain⟨h1,h2⟩:=pos_at l n v h;rw[h2,QV];have hg:(fZ 0 l)[td l n]?=some { key:=.int .i64 n,val:=.int .i64 v,born:=0+td l n }:=by rw[Jy,h1];rfl
  simp[Instr.mapUpdate,run_underlying ht,MapKept.run_getObj_map hb,MapKept.run_checkKey hk Al,MapKept.run_findKey hk hf,hg,MapKept.run_keyThatStays Al,MapKept.run_setObj_map _ hb,Result.andThen]
end
end Go.Proofs.YtnikdflhefijbaaGreat
