import Derived.Below
import Derived.BigQuiet
import Derived.Carry
import Derived.ChangeOld
import Derived.Deep.OwnRows
import Derived.Deep.QuietTactic
import Derived.Deep.Slices
import Derived.Handy
import Derived.Maps.AppendAt
import Derived.OpenShut
import Derived.ProofKit
import Derived.ShutString
import Derived.Stop.IfaceNil
import Derived.Test.YtnikdflhefijbaaGreatRows
import Derived.WalkKit
import Derived.WalkLawsBesides
import Derived.WalkSpells
namespace Go.Proofs.YtnikdflhefijbaaGreat
open Go.RowKit
abbrev aZ:= @List.getD_eq_getElem?_getD
abbrev bB:= @List.getElem?_eq_getElem
abbrev bZ:= @List.getElem?_eq_some_iff
abbrev bU:= @List.mem_of_getElem?
abbrev bD:= @List.mem_singleton
abbrev af:= @if_pos
abbrev bQ:= @List.length_append
abbrev ag:= @if_neg
abbrev bG:= @Int.toNat_natCast
abbrev cy:= @Nat.le_of_ble_eq_true
abbrev ft:= @List.take_succ_eq_append_getElem
abbrev b9:= @List.mem_cons_self
abbrev bu:= @decide_eq_true
abbrev bS:= @Bool.and_eq_true
abbrev aQ:= @Nat.le_refl
abbrev cQ:= @List.mem_cons_of_mem
abbrev bY:= @List.mem_append
abbrev eR:= @List.take_of_length_le
abbrev cf:= @decide_eq_false
abbrev bX:= @List.length_map
abbrev cq:= @List.getElem_mem
abbrev cz:= @List.length_set
abbrev cF:= @List.map_append
abbrev bC:= @Nat.zero_le
abbrev iz:= @List.length_eq_zero_iff
abbrev iy:= @Array.getD_eq_getD_getElem?
abbrev dW:= @List.append_assoc
abbrev fQ:= @List.length_replicate
abbrev eA:= @List.getElem?_set
abbrev jq:= @List.getElem?_append_right
abbrev fk:= @List.getElem?_map
abbrev dm:= @List.mem_cons
abbrev cX:= @List.mem_map
abbrev j6:= @List.getElem?_append_left
abbrev ia:= @List.mem_append_left
abbrev fG:= @List.all_eq_true
abbrev fP:= @of_decide_eq_true
abbrev dI:= @Nat.zero_add
abbrev ga:= @List.take_length
abbrev fF:= @List.mem_range
abbrev j5:= @Nat.eq_of_beq_eq_true
abbrev jP:= @List.mem_append_right
abbrev gj:= @List.length_cons
abbrev jm:= @Nat.mul_le_mul_right
abbrev ff:= @Nat.le_trans
abbrev gR:= @List.drop_zero
abbrev dS:= @Nat.mul_one
abbrev lW:= @Int.toNat_of_nonneg
abbrev lq:= @List.mem_iff_getElem?
abbrev mY:= @Int.eq_ofNat_of_zero_le
abbrev jO:= @Bool.not_eq_true'
abbrev qG:= @List.mem_or_eq_of_mem_set
abbrev qF:= @Array.getElem?_eq_getElem
abbrev mX:= @List.length_pos_iff
abbrev my:= @Bool.false_eq_true
abbrev jN:= @Nat.mul_le_mul
abbrev kL:= @List.mem_filter
abbrev pM:= @List.nodup_append
abbrev tR:= @Int.tmod_eq_emod_of_nonneg
abbrev lV:= @List.nodup_cons
abbrev oM:= @List.getElem?_take
abbrev mW:= @List.any_eq_true
abbrev vK:= @List.getElem?_replicate
abbrev sN:= @List.length_singleton
abbrev mV:= @List.append_nil
abbrev oL:= @List.length_range
abbrev vJ:= @List.getElem?_eq_none
abbrev qE:= @of_decide_eq_false
abbrev oK:= @List.perm_middle
abbrev oJ:= @Nat.not_lt_zero
abbrev qD:= @List.size_toArray
abbrev pL:= @List.mem_flatten
abbrev Da:= @List.length_filter_le
abbrev kl:= @Int.le_refl
abbrev oI:= @List.map_set
abbrev sM:= @List.range_succ
abbrev y8:= @List.eq_of_mem_replicate
abbrev pK:= @Bool.or_eq_true
abbrev sL:= @Nat.lt_of_lt_of_le
abbrev tQ:= @List.length_reverse
abbrev xC:= @List.flatMap_append
abbrev qC:= @Int.natCast_add
abbrev sK:= @List.foldl_append
abbrev vI:= @Nat.pow_le_pow_right
abbrev xB:= @Option.map_eq_some_iff
abbrev xA:= @Nat.testBit_lt_two_pow
abbrev lU:= @Nat.add_mul
abbrev tP:= @List.pairwise_cons
abbrev oH:= @Nat.succ_mul
abbrev y7:= @List.take_append_drop
abbrev vH:= @List.getElem?_range
abbrev tO:= @List.length_take
abbrev pJ:= @List.map_cons
abbrev pI:= @Bool.false_or
abbrev AR:= @List.length_eraseIdx_of_lt
abbrev AQ:= @Array.getElem?_eq_some_iff
abbrev xz:= @List.mem_iff_getElem
abbrev qB:= @Nat.sub_self
abbrev vG:= @Nat.eq_zero_or_pos
abbrev xw:= @List.getElem?_drop
abbrev C9:= @List.length_pos_of_mem
abbrev sJ:= @Int.natCast_mul
abbrev C8:= @List.ext_getElem
abbrev xv:= @List.map_congr_left
abbrev mU:= @Nat.mod_lt
abbrev Lh:= @Nat.ble_eq_true_of_le
abbrev vF:= @List.pairwise_map
abbrev AO:= @List.getElem?_toArray
abbrev vE:= @Nat.mod_eq_of_lt
abbrev C7:= @Int.tdiv_eq_ediv_of_nonneg
abbrev Lg:= @Array.getElem?_append_left
abbrev y6:= @List.flatMap_cons
abbrev C6:= @Array.toList_append
abbrev vD:= @List.nil_append
abbrev AN:= @List.filter_append
abbrev Lf:= @List.take_append_of_le_length
abbrev xt:= @List.not_mem_nil
abbrev xr:= @List.mem_reverse
abbrev tN:= @Nat.pow_zero
abbrev C5:= @List.drop_of_length_le
abbrev AM:= @Nat.lt_or_eq_of_le
abbrev AL:= @Nat.lt_of_le_of_lt
abbrev Le:= @List.set_append_right
abbrev C4:= @Array.getElem?_toList
abbrev sI:= @Nat.pow_add
abbrev GP:= @List.pairwise_iff_getElem
abbrev C3:= @Nat.eq_of_testBit_eq
abbrev AK:= @List.ext_getElem?
abbrev Ld:= @Array.getElem?_setIfInBounds_ne
abbrev vC:= @Nat.zero_mul
abbrev vB:= @Nat.mul_comm
abbrev vA:= @Nat.add_zero
abbrev Lc:= @List.eq_nil_iff_forall_not_mem
abbrev Lb:= @Array.eq_empty_of_size_eq_zero
abbrev xq:= @Nat.mul_assoc
abbrev C2:= @Nat.add_assoc
abbrev Qt:= @List.replicate_succ
abbrev gn7:= @List.flatten_append
abbrev GO:= @List.filter_cons
abbrev La:= @List.drop_append_of_le_length
abbrev K9:= @List.getElem_replicate
abbrev GN:= @Array.size_eq_zero_iff
abbrev go2:= @Bool.false_ne_true
abbrev K8:= @Nat.testBit_two_pow_sub_one
abbrev xp:= @Nat.lt_or_ge
abbrev GM:= @List.eq_nil_or_concat
abbrev C1:= @Nat.le_of_lt_succ
abbrev C0:= @List.flatten_cons
abbrev CZ:= @List.any_eq_false
abbrev GL:= @List.mem_erase_of_ne
abbrev GK:= @List.getElem?_of_mem
abbrev K7:= @List.drop_eq_getElem_cons
abbrev CY:= @List.nodup_range
abbrev CX:= @List.length_drop
abbrev CW:= @List.cons_append
abbrev Qs:= @Array.length_toList
abbrev y5:= @Nat.le_of_eq
abbrev y4:= @Nat.beq_refl
abbrev CV:= @Nat.two_pow_pos
abbrev K6:= @Nat.testBit_mod_two_pow
abbrev K5:= @Nat.min_eq_left
abbrev K4:= @Nat.add_sub_cancel_left
abbrev gq2:= @Nat.add_sub_cancel
abbrev gq3:= @List.filter_cons_of_neg
abbrev CU:= @List.all_append
abbrev GJ:= @Int.natCast_nonneg
abbrev AJ:= @Bool.true_and
abbrev GI:= @Bool.eq_false_iff
abbrev Qr:= @List.nodup_nil
abbrev CT:= @List.drop_drop
abbrev Qq:= @Nat.and_two_pow_sub_one_eq_mod
abbrev K3:= @Array.getElem?_modify
abbrev GH:= @Option.getD_some
abbrev GG:= @Nat.le_add_right
abbrev K1:= @List.pairwise_append
abbrev Qp:= @List.mem_zipIdx_iff_getElem?
abbrev Qo:= @Nat.two_pow_add_eq_or_of_lt
abbrev Qn:= @Nat.testBit_two_pow_mul_add
abbrev K0:= @Nat.pos_iff_ne_zero
abbrev GF:= @Nat.log2_eq_iff
abbrev GD:= @Nat.and_le_left
abbrev GC:= @List.foldl_cons
abbrev KZ:= @List.singleton_inj
abbrev KX:= @List.getElem_range
abbrev KW:= @Int.tmod_lt_of_pos
abbrev KV:= @Int.natAbs_natCast
abbrev KU:= @Int.emod_lt_of_pos
abbrev KT:= @Bool.not_eq_false'
abbrev GB:= @List.count_nil
abbrev Qm:= @Int.mul_neg_of_neg_of_pos
abbrev KS:= @Nat.or_lt_two_pow
abbrev CS:= @Nat.mul_add
abbrev gt2:= @List.filter_cons_of_pos
abbrev GA:= @Bool.not_true
abbrev KR:= @List.getElem_set
abbrev KQ:= @List.getElem_map
abbrev KP:= @List.countP_cons
abbrev Ql:= @Nat.dvd_of_mod_eq_zero
abbrev KO:= @Option.map_some
abbrev KN:= @Nat.testBit_and
abbrev Gz:= @Nat.lt_trans
abbrev Qj:= @List.perm_append_comm
abbrev KM:= @List.map_map
abbrev Qi:= @List.length_mergeSort
abbrev gu4:= @List.filter_nil
abbrev gu5:= @List.any_append
abbrev KL:= @Int.natAbs_zero
abbrev Gy:= @Int.lt_or_le
abbrev KK:= @Int.emod_nonneg
abbrev gu9:= @Bool.beq_eq_decide_eq
abbrev Qh:= @List.getElem?_set_ne
abbrev Qg:= @List.eraseIdx_set_eq
abbrev KJ:= @Nat.testBit_or
abbrev KI:= @Int.natAbs_mul
abbrev KH:= @Bool.false_and
abbrev KG:= @Bool.and_false
abbrev Qf:= @Nat.testBit_two_pow
abbrev Gx:= @Nat.one_mul
abbrev Qe:= @Nat.mul_le_mul_left
abbrev Qd:= @List.mem_map_of_mem
abbrev gw0:= @List.filter_eq_self
abbrev KF:= @Nat.lt_irrefl
abbrev KE:= @List.sum_cons
abbrev Qc:= @List.mem_replicate
abbrev KD:= @Bool.and_true
theorem uB{w:World}{k:Nat}{o:Obj}(h:w.heap[k]?=some o):k<w.heap.size:=(AQ.1 h).1
theorem IA{w:World}{k i:Nat}{c:Array Value}{t:TypeId}{fz:Nat×Nat}(h:w.heap[k]?=some (.cells c t fz)):w.cell? ⟨k,i,none⟩=c[i]?:=by simp[World.cell?,h]
theorem xX(w:World)(o:Obj):(w.alloc o).heap[w.heap.size]?=some o:=heap_alloc_new w o
end Go.Proofs.YtnikdflhefijbaaGreat
namespace Go.Proofs.YtnikdflhefijbaaGreat
open Go.RowKit Go.ChangeShapes Go.WideShapes Go.ChangeAt Go.Deep
inductive Sh where
 |int (k:IntKind)
 |bool
 |str
 |slice (e:Sh)
 |nil
 |field (f r:Sh)
def Sh.size:Sh→Nat
 |.int _=>1
 |.bool=>1
 |.str=>1
 |.slice _=>1
 |.nil=>0
 |.field f r=>f.size+r.size
def Sh.T:Sh→Type
 |.int _=>Int
 |.bool=>Bool
 |.str=>ByteArray
 |.slice e=>List e.T
 |.nil=>Unit
 |.field f r=>f.T×r.T
def Sh.OT:(s:Sh)→s.T
 |.int _=>(0:Int)
 |.bool=>false
 |.str=>ByteArray.empty
 |.slice _=>[]
 |.nil=>()
 |.field f r=>(f.OT,r.OT)
def wY(w:World)(b o:Nat)(cs:List Value):Prop:=∀j u,cs[j]?=some u→w.cell? ⟨b,o+j,none⟩=some u
def Reads(w:World):(s:Sh)→List Value→s.T→Prop
 |.int k,cs,(n:Int)=>cs=[.int k n]∧(Lit.int k n).wf=true
 |.bool,cs,(b:Bool)=>cs=[.bool b]
 |.str,cs,(s:ByteArray)=>cs=[.string s]∧s.size≤maxLen
 |.slice e,cs,(l:List e.T)=>∃(a:Option Addr) (c:Nat),cs=[.slice a l.length c]∧l.length≤c∧c≤maxLen∧(a=none→c=0)∧
   (l≠[]→∃b o,a=some ⟨b,o,none⟩∧∀i,(h:i<l.length)→∃cs',cs'.length=e.size∧wY w b (o+i*e.size) cs'∧Reads w e cs' l[i])
 |.nil,cs,_=>cs=[]
 |.field f r,cs,(d:f.T×r.T)=>∃c1 c2,cs=c1++c2∧c1.length=f.size∧Reads w f c1 d.1∧Reads w r c2 d.2
def Sh.fit(P:Program):Sh→Sum TypeId (List Field×Nat)→Bool
 |.int k,.inl t=>match P.underlying t with | some (.int k')=>decide (k=k') | _=>false
 |.bool,.inl t=>match P.underlying t with | some .bool=>true | _=>false
 |.str,.inl t=>match P.underlying t with | some .string=>true | _=>false
 |.slice e,.inl t=>match P.underlying t with | some (.slice e')=>e.fit P (.inl e')&&decide (P.cellsOf e'=e.size)&&decide (0<e.size) | _=>false
 |.nil,.inr ([],_)=>true
 |.nil,.inl t=>match P.underlying t with | some (.struct fs)=>fs.toList.isEmpty&&decide (P.cellsOf t=0) | _=>false
 |.field f r,.inr (f0::fs,off)=>decide (f0.offset=off)&&decide (P.cellsOf f0.type=f.size)&&f.fit P (.inl f0.type)&&r.fit P (.inr (fs,off+f.size))
 |.field f r,.inl t=>match P.underlying t with
  |some (.struct fs)=>match fs.toList with
   |f0::GQ=>decide (P.cellsOf t=f.size+r.size)&&(decide (f0.offset=0)&&decide (P.cellsOf f0.type=f.size)&&f.fit P (.inl f0.type)&&r.fit P (.inr (GQ,f.size)))
   | []=>false
  |_=>false
 |_,_=>false
theorem Ag{a b:Bool}(h:(a&&b)=true):a=true∧b=true:=by simpa using h
theorem wY.spot{w:World}{a:Addr}{n:Nat}{cs:List Value}(hn:0<n)(hl:cs.length=n)(h:∀i,i<n→w.cell? (a.add i)=cs[i]?):a.spot=none:=by
 have h0:=h 0 hn;rw[bB (by omega)]at h0;exact World.cell?_spot h0
theorem acT{H:Type}{enc:TypeId×Value→H}{P:Program}{w:World}{base:Nat}{spare:Nat→Bool}{held:Bool}(s:Sh):
  (∀(t:TypeId) (fuel:Nat) (cs:List Value) (x:DataW H×List MemPlace),s.fit P (.inl t)=true→DataW.trod enc P w base spare held fuel t cs=some x→cs.length=s.size∧∃d,Reads w s cs d)∧
  (∀(fs:List Field) (off n:Nat) (cs:List Value),s.fit P (.inr (fs,off))=true→cs.length=off+s.size→
   (∀(i:Nat) (f:Field),fs[i]?=some f→∃x,DataW.trod enc P w base spare held n f.type ((cs.drop f.offset).take (P.cellsOf f.type))=some x)→∃d,Reads w s (cs.drop off) d):=by
 induction s with
 |int k=>
  refine⟨fun t fuel cs x hf h=>?_,fun fs off n cs hf=>by simp[Sh.fit]at hf⟩;unfold Sh.fit at hf;split at hf
  ·rename_i k' hk
   have:=fP hf;subst this;obtain⟨n,rfl,_,hw⟩:=DataW.trod_int hk h;exact⟨rfl,n,rfl,hw⟩
  ·cases hf
 |bool=>
  refine⟨fun t fuel cs x hf h=>?_,fun fs off n cs hf=>by simp[Sh.fit]at hf⟩;unfold Sh.fit at hf;split at hf
  ·rename_i hk
   obtain⟨b,rfl,_⟩:=DataW.trod_bool hk h;exact⟨rfl,b,rfl⟩
  ·cases hf
 |str=>
  refine⟨fun t fuel cs x hf h=>?_,fun fs off n cs hf=>by simp[Sh.fit]at hf⟩;unfold Sh.fit at hf;split at hf
  ·rename_i hk
   obtain⟨b,rfl,_,hb⟩:=DataW.trod_string hk h;exact⟨rfl,b,rfl,hb⟩
  ·cases hf
 |slice e ih=>
  refine⟨fun t fuel cs x hf h=>?_,fun fs off n cs hf=>by simp[Sh.fit]at hf⟩;unfold Sh.fit at hf;split at hf
  ·rename_i e' hk
   obtain⟨jl,h0⟩:=Ag hf;obtain⟨xk,eO⟩:=Ag jl;have eO:=fP eO;have h0:=fP h0
   rcases open_slice hk h with ⟨rfl,_⟩ | ⟨a,len,cap,m,n,D,Pl,rfl,hb,hl,hm,hmm,_,hi⟩
   ·exact⟨rfl,[],none,0,rfl,Nat.le_refl _,by simp,fun _=>rfl,fun aS=>absurd rfl aS⟩
   ·have hlm:len≤m:=by rw[hmm];split <;> omega
    have AA:∀i,i<len→∃(y:List Value×e.T),y.1.length=e.size∧w.cells? base (a.add (i*e.size)) e.size=some y.1∧Reads w e y.1 y.2:=by
     intro i pE;obtain⟨cs',h1,h2⟩:=hi i (by omega);obtain⟨h3,d,h4⟩:=ih.1 e' n cs' _ xk h2;rw[eO]at h1;exact⟨(cs',d),h3,h1,h4⟩
    obtain⟨V,hV⟩:= @choose_lt _ ⟨([],e.OT)⟩ _ _ AA;refine⟨rfl,(List.range len).map (fun i=>(V i).2),some a,cap,by simp,by simpa using hl,hm,(fun e=>by cases e),fun aS=>?_⟩
    have uR:0<len:=by
     rcases vG len with h | h
     ·subst h;exact absurd rfl aS
     ·exact h
    obtain⟨b,o,spot⟩:=a
    have aie:spot=none:=by
     obtain⟨q1,q2,_⟩:=hV 0 uR;obtain⟨_,q4,q5⟩:=World.cells?_some q2;have:=wY.spot (a:=(⟨b,o,spot⟩:Addr).add (0*e.size)) h0 q4 q5;unfold Addr.add at this;split at this <;> simp_all
    subst aie;refine⟨b,o,rfl,fun i hi=>?_⟩;have fq:i<len:=by simpa using hi
    obtain⟨q1,q2,q3⟩:=hV i fq;obtain⟨_,q4,q5⟩:=World.cells?_some q2;refine⟨(V i).1,q1,fun j u hu=>?_,by simpa using q3⟩;have hj:j<e.size:=by have:=(bZ.1 hu).1;omega
    have:=q5 j hj;rw[Addr.add_lit,Addr.add_lit]at this;rw[this,hu]
  ·cases hf
 |nil=>
  refine⟨fun t fuel cs x hf h=>?_,fun fs off n cs hf hl _=>?_⟩
  ·unfold Sh.fit at hf;split at hf
   ·rename_i fs hk
    obtain⟨_,hz⟩:=Ag hf;have hz:=fP hz;obtain⟨xs,n,_,_,hlen,_⟩:=DataW.trod_struct hk h;have:cs=[]:=iz.1 (by omega);exact⟨by simp[this,Sh.size],(),this⟩
   ·cases hf
  ·exact⟨(),List.drop_eq_nil_of_le (by simp[Sh.size]at hl;omega)⟩
 |field f r rC kh=>
  have key:∀(f0:Field) (fs:List Field) (off n:Nat) (cs:List Value),
    (decide (f0.offset=off)&&decide (P.cellsOf f0.type=f.size)&&f.fit P (.inl f0.type)&&r.fit P (.inr (fs,off+f.size)))=true→cs.length=off+(f.size+r.size)→
    (∀(i:Nat) (g:Field),(f0::fs)[i]?=some g→∃x,DataW.trod enc P w base spare held n g.type ((cs.drop g.offset).take (P.cellsOf g.type))=some x)→∃d,Reads w (.field f r) (cs.drop off) d:=by
   intro f0 fs off n cs hf hl hx;obtain⟨jl,hr⟩:=Ag hf;obtain⟨xk,hff⟩:=Ag jl;obtain⟨ho,hc⟩:=Ag xk;have ho:=fP ho;have hc:=fP hc;obtain⟨x,xe⟩:=hx 0 f0 rfl;obtain⟨fi,d1,AB⟩:=rC.1 _ _ _ _ hff xe;obtain⟨d2,sD⟩:=kh.2 fs (off+f.size) n cs hr (by omega) (fun i g hg=>hx (i+1) g (by simpa using hg));refine⟨(d1,d2),(cs.drop f0.offset).take (P.cellsOf f0.type),cs.drop (off+f.size),?_,fi,AB,sD⟩;rw[ho,hc,← CT,y7]
  refine⟨fun t fuel cs x hf h=>?_,fun fs off n cs hf hl hx=>?_⟩
  ·unfold Sh.fit at hf;split at hf
   ·rename_i fs hk
    split at hf
    ·rename_i f0 GQ Az
     obtain⟨hz,hf'⟩:=Ag hf;have hz:=fP hz;obtain⟨xs,n,_,_,hlen,Pk,hg⟩:=DataW.trod_struct hk h;have hl:cs.length=0+(f.size+r.size):=by omega
     obtain⟨d,hd⟩:=key f0 GQ 0 n cs (by simpa using hf') hl (fun i g hig=>by
      have hi:fs[i]?=some g:=by rw[← C4,Az];exact hig
      have:=hg i g hi;have Ay:i<xs.length:=by rw[Pk];exact (AQ.1 hi).1
      exact⟨xs[i],by rw[this];exact bB Ay⟩)
     exact⟨by simpa [Sh.size]using hl,d,by simpa using hd⟩
    ·cases hf
   ·cases hf
  ·cases fs with
   |nil=>simp[Sh.fit]at hf
   |cons f0 GQ=>exact key f0 GQ off n cs (by simpa [Sh.fit]using hf) (by simpa [Sh.size]using hl) hx
theorem SH{H:Type}{enc:TypeId×Value→H}{P:Program}{w:World}{base:Nat}{spare:Nat→Bool}{held:Bool}{t:TypeId}{v:Value}{d:DataW H}{p:List MemPlace}(s:Sh)(hs:s.fit P (.inl t)=true)
  (h:DataW.Trod enc P w base spare held t v d p):∃x:s.T,Reads w s v.cells.toList x:=by
 obtain⟨fuel,hf⟩:=h;exact ((acT s).1 t fuel _ _ hs hf).2
theorem wf_u64{n:Int}(h:(Lit.int .u64 n).wf=true):0≤n∧n<18446744073709551616:=by
 have:=bounds_u64 h;omega
end Go.Proofs.YtnikdflhefijbaaGreat
namespace Go.Proofs.YtnikdflhefijbaaGreat
set_option maxRecDepth 100000
set_option maxHeartbeats 4000000
namespace SX
structure AP where
 n:Nat
 W:Nat
 k:Nat
 nx:Nat→List Nat
 jw:Int→Int→Int
 out:Nat→List Int→List Int
 ok:Nat→Int→Prop
 EN:∀{v u},v<n→u∈nx v→u<n
 idem:∀{i x},ok i x→jw x x=x
 comm:∀{i x y},ok i x→ok i y→jw x y=jw y x
 assoc:∀{i x y z},ok i x→ok i y→ok i z→jw (jw x y) z=jw x (jw y z)
 O8:∀{i x y},ok i x→ok i y→ok i (jw x y)
 Ja:∀{v y},v<n→y.length=W→(∀i,i<W→ok i (y.getD i 0))→(out v y).length=W∧∀i,i<W→ok i ((out v y).getD i 0)
 mono:∀{v y z},v<n→y.length=W→z.length=W→(∀i,i<W→ok i (y.getD i 0))→(∀i,i<W→ok i (z.getD i 0))→(∀i,i<W→jw (y.getD i 0) (z.getD i 0)=z.getD i 0)→∀i,i<W→jw ((out v y).getD i 0) ((out v z).getD i 0)=(out v z).getD i 0
inductive Ph where
 |idle (d a:Nat)
 |held (v:Nat)
 |clear (v:Nat)
 |read (v:Nat) (y:List Int)
 |join (v:Nat) (o:List Int) (u:Nat) (r:List Nat) (at_:Nat) (ld:Option Int) (ch:Bool)
 |take (v:Nat) (o:List Int) (u:Nat) (r:List Nat)
 |add (v:Nat) (o:List Int) (u:Nat) (r:List Nat)
 |push (v:Nat) (o:List Int) (u:Nat) (r:List Nat) (a:Nat)
 |dK (v:Nat)
 |done
structure AS where
 cell:Nat→Nat→Int
 flag:Nat→Bool
 aH:Nat
 dq:List (List Nat)
 ph:List Ph
 ev:Nat
 jo:Nat
def eV(v:Nat)(o:List Int):List Nat→Ph
 | []=>.dK v
 |u::r=>.join v o u r 0 none false
def mJ(A:AP)(c:Nat→Nat→Int)(v:Nat):List Int:=(List.range A.W).map (c v)
def dF(c:Nat→Nat→Int)(v i:Nat)(x:Int):Nat→Nat→Int:=fun v' i'=>if v'=v∧i'=i then x else c v' i'
def dU(A:AP)(v:Nat)(o:List Int)(u:Nat)(r:List Nat)(at_:Nat)(ch:Bool):Ph×Nat:=
 if at_+1<A.W then (.join v o u r (at_+1) none ch,0) else if ch=true then (.take v o u r,1) else (eV v o r,0)
inductive Tr(A:AP)(S:AS)(i:Nat):AS→Prop where
 |stay (h:S.ph[i]?=some .done∨S.ph[i]?=none):Tr A S i S
 |uK (a:Nat) (h:S.ph[i]?=some (.idle 0 a)) (ha:a<5):Tr A S i { S with ph:=S.ph.set i (.idle 0 (a+1)) }
 |uL (a:Nat) (h:S.ph[i]?=some (.idle 0 a)) (hd:S.dq[i]?=some []):Tr A S i { S with ph:=S.ph.set i (.idle (if A.k<2 then 2 else 1) 0) }
 |pop (v:Nat) (c:List Nat) (a:Nat) (h:S.ph[i]?=some (.idle 0 a)) (hd:S.dq[i]?=some (c++[v])):Tr A S i { S with dq:=S.dq.set i c,ph:=S.ph.set i (.clear v) }
 |cas (v:Nat) (a:Nat) (h:S.ph[i]?=some (.idle 0 a)) (hd:S.dq[i]?=some [v]):Tr A S i { S with dq:=S.dq.set i [],ph:=S.ph.set i (.held v) }
 |vv (v:Nat) (h:S.ph[i]?=some (.held v)):Tr A S i { S with ph:=S.ph.set i (.clear v) }
 |uj (a:Nat) (h:S.ph[i]?=some (.idle 1 a)) (ha:a<3):Tr A S i { S with ph:=S.ph.set i (.idle 1 (a+1)) }
 |uk (a:Nat) (h:S.ph[i]?=some (.idle 1 a)):Tr A S i { S with ph:=S.ph.set i (.idle 2 0) }
 |cu (j v:Nat) (c:List Nat) (a:Nat) (h:S.ph[i]?=some (.idle 1 a)) (hd:S.dq[j]?=some (v::c)):Tr A S i { S with dq:=S.dq.set j c,ph:=S.ph.set i (.clear v) }
 |ask (h:S.ph[i]?=some (.idle 2 0)) (hc:S.aH≠0):Tr A S i { S with ph:=S.ph.set i (.idle (if A.k<2 then 0 else 1) 0) }
 |clear (v:Nat) (h:S.ph[i]?=some (.clear v)):Tr A S i { S with flag:=fun z=>if z=v then false else S.flag z,ph:=S.ph.set i (.read v []) }
 |ur (v:Nat) (y:List Int) (h:S.ph[i]?=some (.read v y)) (hy:y.length+1<A.W):Tr A S i { S with ph:=S.ph.set i (.read v (y++[S.cell v y.length])) }
 |uu (v:Nat) (y y':List Int) (h:S.ph[i]?=some (.read v y)) (hy:(y.length+1=A.W∧y'=y++[S.cell v y.length])∨(A.W=0∧y'=[])):Tr A S i { S with ph:=S.ph.set i (eV v (A.out v y') (A.nx v)),ev:=S.ev+1 }
 |load (v:Nat) (o:List Int) (u:Nat) (r:List Nat) (at_:Nat) (ch:Bool) (h:S.ph[i]?=some (.join v o u r at_ none ch)) (ha:at_<A.W) (hx:A.jw (S.cell u at_) (o.getD at_ 0)≠S.cell u at_):Tr A S i { S with ph:=S.ph.set i (.join v o u r at_ (some (S.cell u at_)) ch) }
 |same (v:Nat) (o:List Int) (u:Nat) (r:List Nat) (at_:Nat) (ch:Bool) (h:S.ph[i]?=some (.join v o u r at_ none ch)) (ha:at_<A.W) (hx:A.jw (S.cell u at_) (o.getD at_ 0)=S.cell u at_):Tr A S i { S with ph:=S.ph.set i (dU A v o u r at_ ch).1,jo:=S.jo+(dU A v o u r at_ ch).2 }
 |lost (v:Nat) (o:List Int) (u:Nat) (r:List Nat) (at_:Nat) (ch:Bool) (x:Int) (h:S.ph[i]?=some (.join v o u r at_ (some x) ch)) (ha:at_<A.W) (hx:S.cell u at_≠x):Tr A S i { S with ph:=S.ph.set i (.join v o u r at_ none ch) }
 |uW (v:Nat) (o:List Int) (u:Nat) (r:List Nat) (at_:Nat) (ch:Bool) (h:S.ph[i]?=some (.join v o u r at_ (some (S.cell u at_)) ch)) (ha:at_<A.W) (hx:A.jw (S.cell u at_) (o.getD at_ 0)≠S.cell u at_):Tr A S i { S with cell:=dF S.cell u at_ (A.jw (S.cell u at_) (o.getD at_ 0)),ph:=S.ph.set i (dU A v o u r at_ true).1,jo:=S.jo+(dU A v o u r at_ true).2 }
 |none (v:Nat) (o:List Int) (u:Nat) (r:List Nat) (h:S.ph[i]?=some (.join v o u r 0 none false)) (ha:A.W=0):Tr A S i { S with ph:=S.ph.set i (eV v o r) }
 |flag (v:Nat) (o:List Int) (u:Nat) (r:List Nat) (h:S.ph[i]?=some (.take v o u r)) (hf:S.flag u=false):Tr A S i { S with flag:=fun z=>if z=u then true else S.flag z,ph:=S.ph.set i (.add v o u r) }
 |uN (v:Nat) (o:List Int) (u:Nat) (r:List Nat) (h:S.ph[i]?=some (.take v o u r)) (hf:S.flag u=true):Tr A S i { S with ph:=S.ph.set i (eV v o r) }
 |add (v:Nat) (o:List Int) (u:Nat) (r:List Nat) (h:S.ph[i]?=some (.add v o u r)):Tr A S i { S with aH:=S.aH+1,ph:=S.ph.set i (.push v o u r 0) }
 |uv (v:Nat) (o:List Int) (u:Nat) (r:List Nat) (a:Nat) (h:S.ph[i]?=some (.push v o u r a)) (ha:a<3):Tr A S i { S with ph:=S.ph.set i (.push v o u r (a+1)) }
 |push (v:Nat) (o:List Int) (u:Nat) (r:List Nat) (c:List Nat) (h:S.ph[i]?=some (.push v o u r 3)) (hd:S.dq[i]?=some c):Tr A S i { S with dq:=S.dq.set i (c++[u]),ph:=S.ph.set i (eV v o r) }
 |dK (v:Nat) (h:S.ph[i]?=some (.dK v)):Tr A S i { S with aH:=S.aH-1,ph:=S.ph.set i (.idle 0 0) }
 |uI (h:S.ph[i]?=some (.idle 2 0)) (hc:S.aH=0):Tr A S i { S with ph:=S.ph.set i .done }
def aI{α:Type}(f:α→Nat)(l:List α):Nat:=(l.map f).sum
theorem fu{α:Type}(f:α→Nat):∀(l:List α) (i:Nat) (x y:α),l[i]?=some x→aI f (l.set i y)+f x=aI f l+f y
 |a::l,0,x,y,h=>by
  simp at h;subst h;show f y+aI f l+f a=f a+aI f l+f y;omega
 |a::l,i+1,x,y,h=>by
  have:=fu f l i x y (by simpa using h);show f a+aI f (l.set i y)+f x=f a+aI f l+f y;omega
theorem zA{α:Type}(f:α→Nat):∀(l:List α) (i:Nat) (x:α),l[i]?=some x→f x≤aI f l
 |a::l,0,x,h=>by
  simp at h;subst h;show f a≤f a+aI f l;omega
 |a::l,i+1,x,h=>by
  have:=zA f l i x (by simpa using h);show f x≤f a+aI f l;omega
theorem TL{α:Type}(f:α→Nat){l:List α}(h:aI f l=0){x:α}(hx:x∈l):f x=0:=by
 obtain⟨i,hi⟩:=lq.1 hx;have:=zA f l i x hi;omega
def ra:Ph→List Nat
 |.held v | .clear v=>[v]
 |.add _ _ u _ | .push _ _ u _ _=>[u]
 |_=>[]
def jk(z:Nat)(p:Ph):Nat:=(ra p).count z
def tok(S:AS)(v:Nat):Nat:=aI (fun l=>l.count v) S.dq+aI (jk v) S.ph
def cw:Ph→Nat
 |.idle _ _ | .done=>0
 |.push .. => 2
 |_=>1
def nodes:Ph→List Nat
 |.idle _ _ | .done=>[]
 |.held v | .clear v | .read v _ | .dK v=>[v]
 |.join v _ u r _ _ _ | .take v _ u r | .add v _ u r | .push v _ u r _=>v::u::r
structure TI(A:AP)(S:AS):Prop where
 tok:∀v,tok S v=if S.flag v then 1 else 0
 aH:S.aH=aI List.length S.dq+aI cw S.ph
 oN:∀c∈S.dq,∀v∈c,v<A.n
 tw:∀p∈S.ph,∀v∈nodes p,v<A.n
theorem El(v:Nat)(o:List Int)(r:List Nat):cw (eV v o r)=1:=by cases r <;> rfl
theorem DZ(v:Nat)(o:List Int)(r:List Nat):ra (eV v o r)=[]:=by cases r <;> rfl
theorem Dp{v:Nat}{o:List Int}{r:List Nat}{z:Nat}(h:z∈nodes (eV v o r)):z=v∨z∈r:=by
 cases r with
 |nil=>simp[eV,nodes]at h;exact .inl h
 |cons u r=>simp[eV,nodes]at h;simp;omega
theorem UA(A:AP)(v:Nat)(o:List Int)(u:Nat)(r:List Nat)(at_:Nat)(ch:Bool):cw (dU A v o u r at_ ch).1=1:=by
 unfold dU;split
 ·rfl
 ·split
  ·rfl
  ·exact El _ _ _
theorem SV(A:AP)(v:Nat)(o:List Int)(u:Nat)(r:List Nat)(at_:Nat)(ch:Bool):ra (dU A v o u r at_ ch).1=[]:=by
 unfold dU;split
 ·rfl
 ·split
  ·rfl
  ·exact DZ _ _ _
theorem Rg{A:AP}{v:Nat}{o:List Int}{u:Nat}{r:List Nat}{at_:Nat}{ch:Bool}{z:Nat}(h:z∈nodes (dU A v o u r at_ ch).1):z∈v::u::r:=by
 revert h;unfold dU;split
 ·exact id
 ·split
  ·exact id
  ·intro h
   rcases Dp h with h | h <;> simp[h]
theorem TI.ph{A:AP}{S:AS}(h:TI A S){i:Nat}{p q:Ph}(hi:S.ph[i]?=some p)(ht:ra q=ra p)(hc:cw q=cw p)(hn:∀z∈nodes q,z<A.n){S':AS}(e1:S'.flag=S.flag)(e2:S'.aH=S.aH)(e3:S'.dq=S.dq)(e4:S'.ph=S.ph.set i q):TI A S':=by
 refine⟨fun v=>?_,?_,?_,?_⟩
 ·have:=fu (jk v) S.ph i p q hi;have e0:jk v q=jk v p:=by unfold jk;rw[ht]
  have h1:=h.tok v;unfold SX.tok at h1 ⊢;rw[e1,e3,e4];omega
 ·have:=fu cw S.ph i p q hi;have h1:=h.aH;rw[e2,e3,e4];omega
 ·rw[e3];exact h.oN
 ·rw[e4];intro x hx v hv
  rcases qG hx with hx | rfl
  ·exact h.tw x hx v hv
  ·exact hn v hv
theorem TI.at_{A:AP}{S:AS}(h:TI A S){i:Nat}{p:Ph}(hi:S.ph[i]?=some p){v:Nat}(hv:v∈nodes p):v<A.n:=h.tw p (bU hi) v hv
theorem xK{S:AS}{A:AP}(h:∀p∈S.ph,∀v∈nodes p,v<A.n){i:Nat}{q:Ph}(hn:∀z∈nodes q,z<A.n):∀p∈S.ph.set i q,∀v∈nodes p,v<A.n:=by
 intro x hx v hv
 rcases qG hx with hx | rfl
 ·exact h x hx v hv
 ·exact hn v hv
theorem Hi{S:AS}{A:AP}(h:∀c∈S.dq,∀v∈c,v<A.n){i:Nat}{c:List Nat}(hn:∀z∈c,z<A.n):∀c'∈S.dq.set i c,∀v∈c',v<A.n:=by
 intro x hx v hv
 rcases qG hx with hx | rfl
 ·exact h x hx v hv
 ·exact hn v hv
theorem By(a b:Nat):[a].count b=if a=b then 1 else 0:=by
 rw[List.count_singleton]
 by_cases h:a=b <;> simp[h]
theorem TI.step{A:AP}{S S':AS}{i:Nat}(h:TI A S)(hs:Tr A S i S'):TI A S':=by
 cases hs with
 |stay=>exact h
 |uK a hp ha=>exact h.ph (q:=.idle 0 (a+1)) hp rfl rfl (by simp[nodes]) rfl rfl rfl rfl
 |uL a hp hd=>exact h.ph (q:=.idle (if A.k<2 then 2 else 1) 0) hp rfl rfl (by simp[nodes]) rfl rfl rfl rfl
 |uj a hp ha=>exact h.ph (q:=.idle 1 (a+1)) hp rfl rfl (by simp[nodes]) rfl rfl rfl rfl
 |uk a hp=>exact h.ph (q:=.idle 2 0) hp rfl rfl (by simp[nodes]) rfl rfl rfl rfl
 |ask hp hc=>exact h.ph (q:=.idle (if A.k<2 then 0 else 1) 0) hp rfl rfl (by simp[nodes]) rfl rfl rfl rfl
 |uv v o u r a hp ha=>exact h.ph (q:=.push v o u r (a+1)) hp rfl rfl (fun z hz=>h.at_ hp hz) rfl rfl rfl rfl
 |pop v c a hp hd=>
  have hv:v<A.n:=h.oN _ (List.mem_of_getElem? hd) v (by simp);refine⟨fun z=>?_,?_,Hi h.oN (fun z hz=>h.oN _ (List.mem_of_getElem? hd) z (by simp[hz])),xK h.tw (by simpa [nodes]using hv)⟩
  ·have k1:=fu (jk z) S.ph i _ (.clear v) hp;have k2:=fu (fun l=>l.count z) S.dq i _ c hd;have k3:=h.tok z;unfold SX.tok at k3 ⊢;simp only[jk,ra,List.count_append,By,GB]at k1 k2;show aI _ (S.dq.set i c)+aI _ (S.ph.set i (.clear v))=if S.flag z then 1 else 0
   omega
  ·have k1:=fu cw S.ph i _ (.clear v) hp;have k2:=fu List.length S.dq i _ c hd;have k3:=h.aH;simp only[cw,bQ,sN]at k1 k2;show S.aH=aI List.length (S.dq.set i c)+aI cw (S.ph.set i (.clear v));omega
 |cas v a hp hd=>
  have hv:v<A.n:=h.oN _ (List.mem_of_getElem? hd) v (by simp);refine⟨fun z=>?_,?_,Hi h.oN (fun z hz=>by cases hz),xK h.tw (by simpa [nodes]using hv)⟩
  ·have k1:=fu (jk z) S.ph i _ (.held v) hp;have k2:=fu (fun l=>l.count z) S.dq i _ [] hd;have k3:=h.tok z;unfold SX.tok at k3 ⊢;simp only[jk,ra,By,GB]at k1 k2;show aI _ (S.dq.set i [])+aI _ (S.ph.set i (.held v))=if S.flag z then 1 else 0
   omega
  ·have k1:=fu cw S.ph i _ (.held v) hp;have k2:=fu List.length S.dq i _ [] hd;have k3:=h.aH;simp only[cw,List.length_nil,sN]at k1 k2;show S.aH=aI List.length (S.dq.set i [])+aI cw (S.ph.set i (.held v));omega
 |vv v hp=>exact h.ph (q:=.clear v) hp rfl rfl (by have:=h.at_ hp (v:=v) (by simp[nodes]);simpa [nodes]using this) rfl rfl rfl rfl
 |cu j v c a hp hd=>
  have hv:v<A.n:=h.oN _ (List.mem_of_getElem? hd) v (by simp);refine⟨fun z=>?_,?_,Hi h.oN (fun z hz=>h.oN _ (List.mem_of_getElem? hd) z (by simp[hz])),xK h.tw (by simpa [nodes]using hv)⟩
  ·have k1:=fu (jk z) S.ph i _ (.clear v) hp;have k2:=fu (fun l=>l.count z) S.dq j _ c hd;have k3:=h.tok z;unfold SX.tok at k3 ⊢;have k4:(v::c).count z=[v].count z+c.count z:=by rw[← List.count_append];rfl
   simp only[jk,ra,By,GB,k4]at k1 k2;show aI _ (S.dq.set j c)+aI _ (S.ph.set i (.clear v))=if S.flag z then 1 else 0
   omega
  ·have k1:=fu cw S.ph i _ (.clear v) hp;have k2:=fu List.length S.dq j _ c hd;have k3:=h.aH;simp only[cw,gj]at k1 k2;show S.aH=aI List.length (S.dq.set j c)+aI cw (S.ph.set i (.clear v));omega
 |clear v hp=>
  have hv:=h.at_ hp (v:=v) (by simp[nodes]);refine⟨fun z=>?_,?_,h.oN,xK h.tw (by simpa [nodes]using hv)⟩
  ·have k1:=fu (jk z) S.ph i _ (.read v []) hp;have k3:=h.tok z;have k5:=zA (jk z) S.ph i _ hp;unfold SX.tok at k3 ⊢;simp only[jk,ra,By,GB]at k1 k5;show aI _ S.dq+aI _ (S.ph.set i (.read v []))=if (if z=v then false else S.flag z) then 1 else 0
   by_cases hz:v=z
   ·subst hz;simp only[if_true]at k1 k5 ⊢;split at k3 <;> simp <;> omega
   ·have ez:(if z=v then false else S.flag z)=S.flag z:=ag fun e=>hz e.symm;rw[ez];simp only[ag hz]at k1;omega
  ·have k1:=fu cw S.ph i _ (.read v []) hp;have k3:=h.aH;simp only[cw]at k1;show S.aH=aI List.length S.dq+aI cw (S.ph.set i (.read v []));omega
 |ur v y hp hy=>exact h.ph (q:=.read v (y++[S.cell v y.length])) hp rfl rfl (by have:=h.at_ hp (v:=v) (by simp[nodes]);simpa [nodes]using this) rfl rfl rfl rfl
 |uu v y y' hp hy=>
  have hv:=h.at_ hp (v:=v) (by simp[nodes])
  exact h.ph (q:=eV v (A.out v y') (A.nx v)) hp (DZ _ _ _) (El _ _ _) (fun z hz=>by
   rcases Dp hz with rfl | hz
   ·exact hv
   ·exact A.EN hv hz) rfl rfl rfl rfl
 |load v o u r at_ ch hp ha hx=>exact h.ph (q:=.join v o u r at_ (some (S.cell u at_)) ch) hp rfl rfl (fun z hz=>h.at_ hp hz) rfl rfl rfl rfl
 |same v o u r at_ ch hp ha hx=>exact h.ph (q:=(dU A v o u r at_ ch).1) hp (SV ..) (UA ..) (fun z hz=>h.at_ hp (Rg hz)) rfl rfl rfl rfl
 |lost v o u r at_ ch x hp ha hx=>exact h.ph (q:=.join v o u r at_ none ch) hp rfl rfl (fun z hz=>h.at_ hp hz) rfl rfl rfl rfl
 |uW v o u r at_ ch hp ha hx=>exact h.ph (q:=(dU A v o u r at_ true).1) hp (SV ..) (UA ..) (fun z hz=>h.at_ hp (Rg hz)) rfl rfl rfl rfl
 |none v o u r hp ha=>exact h.ph (q:=eV v o r) hp (DZ _ _ _) (El _ _ _) (fun z hz=>h.at_ hp (by rcases Dp hz with hz | hz <;> simp[nodes,hz])) rfl rfl rfl rfl
 |flag v o u r hp hf=>
  refine⟨fun z=>?_,?_,h.oN,xK h.tw (fun z hz=>h.at_ hp hz)⟩
  ·have k1:=fu (jk z) S.ph i _ (.add v o u r) hp;have k3:=h.tok z;unfold SX.tok at k3 ⊢;simp only[jk,ra,By,GB]at k1;show aI _ S.dq+aI _ (S.ph.set i (.add v o u r))=if (if z=u then true else S.flag z) then 1 else 0
   by_cases hz:u=z
   ·subst hz;rw[hf]at k3;simp at k1 k3 ⊢;omega
   ·have ez:(if z=u then true else S.flag z)=S.flag z:=ag fun e=>hz e.symm;rw[ez];simp only[ag hz]at k1;omega
  ·have k1:=fu cw S.ph i _ (.add v o u r) hp;have k3:=h.aH;simp only[cw]at k1;show S.aH=aI List.length S.dq+aI cw (S.ph.set i (.add v o u r));omega
 |uN v o u r hp hf=>exact h.ph (q:=eV v o r) hp (DZ _ _ _) (El _ _ _) (fun z hz=>h.at_ hp (by rcases Dp hz with hz | hz <;> simp[nodes,hz])) rfl rfl rfl rfl
 |add v o u r hp=>
  refine⟨fun z=>?_,?_,h.oN,xK h.tw (fun z hz=>h.at_ hp hz)⟩
  ·have k1:=fu (jk z) S.ph i _ (.push v o u r 0) hp;have k3:=h.tok z;unfold SX.tok at k3 ⊢;simp only[jk,ra]at k1;show aI _ S.dq+aI _ (S.ph.set i (.push v o u r 0))=if S.flag z then 1 else 0
   omega
  ·have k1:=fu cw S.ph i _ (.push v o u r 0) hp;have k3:=h.aH;simp only[cw]at k1;show S.aH+1=aI List.length S.dq+aI cw (S.ph.set i (.push v o u r 0));omega
 |push v o u r c hp hd=>
  have hu:=h.at_ hp (v:=u) (by simp[nodes]);refine⟨fun z=>?_,?_,Hi h.oN (fun z hz=>?_),xK h.tw (fun z hz=>h.at_ hp (by rcases Dp hz with hz | hz <;> simp[nodes,hz]))⟩
  ·have k1:=fu (jk z) S.ph i _ (eV v o r) hp;have k2:=fu (fun l=>l.count z) S.dq i _ (c++[u]) hd;have k3:=h.tok z;unfold SX.tok at k3 ⊢;have e0:jk z (eV v o r)=0:=by unfold jk;rw[DZ];rfl
   rw[e0]at k1;simp only[jk,ra,List.count_append,By]at k1 k2;show aI _ (S.dq.set i (c++[u]))+aI _ (S.ph.set i (eV v o r))=if S.flag z then 1 else 0
   omega
  ·have k1:=fu cw S.ph i _ (eV v o r) hp;have k2:=fu List.length S.dq i _ (c++[u]) hd;have k3:=h.aH;rw[El]at k1;simp only[cw,bQ,sN]at k1 k2;show S.aH=aI List.length (S.dq.set i (c++[u]))+aI cw (S.ph.set i (eV v o r));omega
  ·rcases bY.1 hz with hz | hz
   ·exact h.oN _ (bU hd) z hz
   ·rw[bD.1 hz];exact hu
 |dK v hp=>
  refine⟨fun z=>?_,?_,h.oN,xK h.tw (by simp[nodes])⟩
  ·have k1:=fu (jk z) S.ph i _ (.idle 0 0) hp;have k3:=h.tok z;unfold SX.tok at k3 ⊢;simp only[jk,ra]at k1;show aI _ S.dq+aI _ (S.ph.set i (.idle 0 0))=if S.flag z then 1 else 0
   omega
  ·have k1:=fu cw S.ph i _ (.idle 0 0) hp;have k3:=h.aH;simp only[cw]at k1;show S.aH-1=aI List.length S.dq+aI cw (S.ph.set i (.idle 0 0));omega
 |uI hp hc=>exact h.ph (q:=.done) hp rfl rfl (by simp[nodes]) rfl rfl rfl rfl
end SX
end Go.Proofs.YtnikdflhefijbaaGreat
namespace Go.Proofs.YtnikdflhefijbaaGreat
set_option maxRecDepth 100000
set_option maxHeartbeats 4000000
namespace SX
variable {A:AP}
theorem le_trans{i:Nat}{x y z:Int}(hx:A.ok i x)(hy:A.ok i y)(hz:A.ok i z)(h1:A.jw x y=y)(h2:A.jw y z=z):A.jw x z=z:=by
 rw[← h2,← A.assoc hx hy hz,h1]
theorem M1{i:Nat}{x y:Int}(hx:A.ok i x)(hy:A.ok i y):A.jw x (A.jw x y)=A.jw x y:=by
 rw[← A.assoc hx hx hy,A.idem hx]
theorem Uu{i:Nat}{x y:Int}(hx:A.ok i x)(hy:A.ok i y):A.jw y (A.jw x y)=A.jw x y:=by
 rw[A.comm hx hy,← A.assoc hy hy hx,A.idem hy]
theorem aft{i:Nat}{x y z:Int}(hx:A.ok i x)(hy:A.ok i y)(hz:A.ok i z)(h1:A.jw x z=z)(h2:A.jw y z=z):A.jw (A.jw x y) z=z:=by
 rw[A.assoc hx hy hz,h2,h1]
theorem HJ(c:Nat→Nat→Int)(v:Nat):(mJ A c v).length=A.W:=by simp[mJ]
theorem DJ(c:Nat→Nat→Int)(v:Nat){i:Nat}(h:i<A.W):(mJ A c v).getD i 0=c v i:=by
 unfold mJ;rw[aZ,fk,vH h];rfl
theorem BB(c:Nat→Nat→Int)(v i:Nat)(x:Int):dF c v i x v i=x:=by simp[dF]
theorem uh{c:Nat→Nat→Int}{v i:Nat}{x:Int}{v' i':Nat}(h:¬(v'=v∧i'=i)):dF c v i x v' i'=c v' i':=by simp only[dF,ag h]
theorem abN{c:Nat→Nat→Int}{v i:Nat}{x:Int}{v':Nat}(h:v'≠v):mJ A (dF c v i x) v'=mJ A c v':=by
 unfold mJ;refine xv fun j _=>?_;exact uh fun e=>h e.1
structure E5(A:AP)(b:Nat→Nat→Int)(v:Nat)(o:List Int):Prop where
 len:o.length=A.W
 ok:∀i,i<A.W→A.ok i (o.getD i 0)
 low:∀u∈A.nx v,∀i,i<A.W→A.jw (o.getD i 0) (b u i)=b u i
def wX(A:AP)(b cell:Nat→Nat→Int):Ph→Prop
 |.read v y=>(y.length<A.W∨(A.W=0∧y=[]))∧∀i,i<y.length→A.ok i (y.getD i 0)∧A.jw (y.getD i 0) (cell v i)=cell v i
 |.join v o u r at_ ld _=>E5 A b v o∧u∈A.nx v∧(∀z∈r,z∈A.nx v)∧(∀i,i<at_→i<A.W→A.jw (o.getD i 0) (cell u i)=cell u i)∧(∀x,ld=some x→at_<A.W)
 |.take v o u r | .add v o u r | .push v o u r _=>E5 A b v o∧u∈A.nx v∧(∀z∈r,z∈A.nx v)∧(∀i,i<A.W→A.jw (o.getD i 0) (cell u i)=cell u i)
 |_=>True
structure O2(A:AP)(b:Nat→Nat→Int):Prop where
 ok:∀v i,v<A.n→i<A.W→A.ok i (b v i)
 out:∀v,v<A.n→∀u∈A.nx v,∀i,i<A.W→A.jw ((A.out v (mJ A b v)).getD i 0) (b u i)=b u i
structure VI(A:AP)(b:Nat→Nat→Int)(S:AS):Prop where
 ok:∀v i,v<A.n→i<A.W→A.ok i (S.cell v i)
 low:∀v i,v<A.n→i<A.W→A.jw (S.cell v i) (b v i)=b v i
 ph:∀p∈S.ph,wX A b S.cell p
theorem wX.aiW{b cell B1:Nat→Nat→Int}{p:Ph}(h:wX A b cell p)(hn:∀v∈nodes p,v<A.n)(h0:∀v i,v<A.n→i<A.W→A.ok i (cell v i))(h1:∀v i,v<A.n→i<A.W→A.ok i (B1 v i))(h2:∀v i,v<A.n→i<A.W→A.jw (cell v i) (B1 v i)=B1 v i):wX A b B1 p:=by
 have key:∀{v:Nat} {o:List Int} {u:Nat} {m:Nat},E5 A b v o→u<A.n→(∀i,i<m→i<A.W→A.jw (o.getD i 0) (cell u i)=cell u i)→∀i,i<m→i<A.W→A.jw (o.getD i 0) (B1 u i)=B1 u i:=by
  intro v o u m ho hu hj i hi hw;exact le_trans (ho.ok i hw) (h0 u i hu hw) (h1 u i hu hw) (hj i hi hw) (h2 u i hu hw)
 cases p with
 |read v y=>
  obtain⟨h3,h4⟩:=h;refine⟨h3,fun i hi=>⟨(h4 i hi).1,?_⟩⟩;have hw:i<A.W:=by (rcases h3 with h3 | ⟨_,rfl⟩);exact Gz hi h3;cases hi
  have hv:=hn v (by simp[nodes]);exact le_trans (h4 i hi).1 (h0 v i hv hw) (h1 v i hv hw) (h4 i hi).2 (h2 v i hv hw)
 |join v o u r at_ ld ch=>
  obtain⟨h3,h4,h5,h6,h7⟩:=h;exact⟨h3,h4,h5,key h3 (hn u (by simp[nodes])) h6,h7⟩
 |take v o u r=>
  obtain⟨h3,h4,h5,h6⟩:=h;exact⟨h3,h4,h5,fun i hi=>key (m:=A.W) h3 (hn u (by simp[nodes])) (fun i _ hw=>h6 i hw) i hi hi⟩
 |add v o u r=>
  obtain⟨h3,h4,h5,h6⟩:=h;exact⟨h3,h4,h5,fun i hi=>key (m:=A.W) h3 (hn u (by simp[nodes])) (fun i _ hw=>h6 i hw) i hi hi⟩
 |push v o u r a=>
  obtain⟨h3,h4,h5,h6⟩:=h;exact⟨h3,h4,h5,fun i hi=>key (m:=A.W) h3 (hn u (by simp[nodes])) (fun i _ hw=>h6 i hw) i hi hi⟩
 |_=>trivial
theorem Ej{b cell:Nat→Nat→Int}{v:Nat}{o:List Int}{r:List Nat}(h:E5 A b v o)(hr:∀z∈r,z∈A.nx v):wX A b cell (eV v o r):=by
 cases r with
 |nil=>trivial
 |cons u r=>exact⟨h,hr u (by simp),fun z hz=>hr z (by simp[hz]),fun i hi=>absurd hi (Nat.not_lt_zero _),fun x hx=>by cases hx⟩
theorem Uy{b cell:Nat→Nat→Int}{v:Nat}{o:List Int}{u:Nat}{r:List Nat}{at_:Nat}{ch:Bool}(h:E5 A b v o)(hu:u∈A.nx v)(hr:∀z∈r,z∈A.nx v)(hj:∀i,i<at_+1→i<A.W→A.jw (o.getD i 0) (cell u i)=cell u i):wX A b cell (dU A v o u r at_ ch).1:=by
 unfold dU;split
 ·exact⟨h,hu,hr,hj,fun x hx=>by cases hx⟩
 ·split
  ·exact⟨h,hu,hr,fun i hi=>hj i (by omega) hi⟩
  ·exact Ej h hr
theorem HH(y:List Int)(x:Int)(i:Nat):(y++[x]).getD i 0=if i<y.length then y.getD i 0 else if i=y.length then x else 0:=by
 simp only[aZ]
 by_cases h:i<y.length
 ·rw[af h,j6 h]
 ·rw[ag h,jq (by omega)]
  by_cases h2:i=y.length
  ·simp[h2]
  ·rw[if_neg h2,List.getElem?_eq_none (by simp;omega)];rfl
theorem VI.step{b:Nat→Nat→Int}{S S':AS}{i:Nat}(hb:O2 A b)(ht:TI A S)(h:VI A b S)(hs:Tr A S i S'):VI A b S'∧∀v j,v<A.n→j<A.W→A.jw (S.cell v j) (S'.cell v j)=S'.cell v j:=by
 have hrefl:∀v j,v<A.n→j<A.W→A.jw (S.cell v j) (S.cell v j)=S.cell v j:=fun v j hv hj=>A.idem (h.ok v j hv hj)
 have ke:∀{q:Ph} {S':AS},S'.cell=S.cell→S'.ph=S.ph.set i q→wX A b S.cell q→VI A b S'∧∀v j,v<A.n→j<A.W→A.jw (S.cell v j) (S'.cell v j)=S'.cell v j:=by
  intro q S' e1 e2 hq;refine⟨⟨by rw[e1];exact h.ok,by rw[e1];exact h.low,?_⟩,by rw[e1];exact hrefl⟩;rw[e1,e2];intro p hp
  rcases qG hp with hp | rfl
  ·exact h.ph p hp
  ·exact hq
 have at_:∀{p:Ph},S.ph[i]?=some p→wX A b S.cell p:=fun hp=>h.ph _ (bU hp);cases hs with
 |stay=>exact⟨h,hrefl⟩
 |uK a hp ha=>exact ke rfl rfl trivial
 |uL a hp hd=>exact ke rfl rfl trivial
 |uj a hp ha=>exact ke rfl rfl trivial
 |uk a hp=>exact ke rfl rfl trivial
 |ask hp hc=>exact ke rfl rfl trivial
 |uv v o u r a hp ha=>
  obtain⟨h1,h2,h3,h4⟩:=at_ hp;exact ke rfl rfl ⟨h1,h2,h3,h4⟩
 |pop v c a hp hd=>exact ke rfl rfl trivial
 |cas v a hp hd=>exact ke rfl rfl trivial
 |vv v hp=>exact ke rfl rfl trivial
 |cu j v c a hp hd=>exact ke rfl rfl trivial
 |clear v hp=>exact ke rfl rfl ⟨(vG A.W).elim (fun h=>.inr ⟨h,rfl⟩) .inl,fun i hi=>by cases hi⟩
 |ur v y hp hy=>
  obtain⟨h1,h2⟩:=at_ hp;have hv:=ht.at_ hp (v:=v) (by simp[nodes]);refine ke rfl rfl ⟨.inl (by simp;omega),fun j hj=>?_⟩;simp at hj;rw[HH]
  by_cases iM:j<y.length
  ·rw[af iM];exact h2 j iM
  ·have:j=y.length:=by omega
   subst this;rw[ag (by omega),af rfl];exact⟨h.ok v _ hv (by omega),hrefl v _ hv (by omega)⟩
 |uu v y y' hp hy=>
  obtain⟨h1,h2⟩:=at_ hp;have hv:=ht.at_ hp (v:=v) (by simp[nodes])
  have vc:y'.length=A.W∧∀j,j<A.W→A.ok j (y'.getD j 0)∧A.jw (y'.getD j 0) (S.cell v j)=S.cell v j:=by
   rcases hy with ⟨hl,rfl⟩ | ⟨hw,rfl⟩
   ·refine⟨by simpa using hl,fun j hj=>?_⟩;rw[HH]
    by_cases iM:j<y.length
    ·rw[af iM];exact h2 j iM
    ·have:j=y.length:=by omega
     subst this;rw[ag (by omega),af rfl];exact⟨h.ok v _ hv (by omega),hrefl v _ hv (by omega)⟩
   ·exact⟨hw.symm,fun j hj=>by omega⟩
  obtain⟨k1,k2⟩:=A.Ja hv vc.1 fun j hj=>(vc.2 j hj).1;have pF:=HJ (A:=A) b v;obtain⟨m1,m2⟩:=A.Ja hv pF fun j hj=>by rw[DJ b v hj];exact hb.ok v j hv hj
  have aij:=A.mono hv vc.1 pF (fun j hj=>(vc.2 j hj).1) (fun j hj=>by rw[DJ b v hj];exact hb.ok v j hv hj) fun j hj=>by
   rw[DJ b v hj];exact le_trans (vc.2 j hj).1 (h.ok v j hv hj) (hb.ok v j hv hj) (vc.2 j hj).2 (h.low v j hv hj)
  refine ke rfl rfl (Ej ⟨k1,k2,fun u hu j hj=>?_⟩ fun z hz=>hz);exact le_trans (k2 j hj) (m2 j hj) (hb.ok u j (A.EN hv hu) hj) (aij j hj) (hb.out v hv u hu j hj)
 |load v o u r a ch hp ha hx=>
  obtain⟨h1,h2,h3,h4,_⟩:=at_ hp;exact ke rfl rfl ⟨h1,h2,h3,h4,fun _ _=>ha⟩
 |same v o u r a ch hp ha hx=>
  obtain⟨h1,h2,h3,h4,_⟩:=at_ hp;have hu:=ht.at_ hp (v:=u) (by simp[nodes]);refine ke rfl rfl (Uy h1 h2 h3 fun j hj hw=>?_)
  rcases AM (C1 hj) with hj | rfl
  ·exact h4 j hj hw
  ·rw[A.comm (h1.ok j hw) (h.ok u j hu hw),hx]
 |lost v o u r a ch x hp ha hx=>
  obtain⟨h1,h2,h3,h4,_⟩:=at_ hp;exact ke rfl rfl ⟨h1,h2,h3,h4,fun _ hx=>by cases hx⟩
 |uW v o u r a ch hp ha hx=>
  obtain⟨h1,h2,h3,h4,_⟩:=at_ hp;have hu:=ht.at_ hp (v:=u) (by simp[nodes]);have yQ:=h1.ok a ha;have nG:=h.ok u a hu ha
  have bM:∀v' j,v'<A.n→j<A.W→A.ok j (dF S.cell u a (A.jw (S.cell u a) (o.getD a 0)) v' j):=fun v' j pB hj=>by
   by_cases he:v'=u∧j=a
   ·obtain⟨rfl,rfl⟩:=he;rw[BB];exact A.O8 nG yQ
   ·rw[uh he];exact h.ok v' j pB hj
  have Jc:∀v' j,v'<A.n→j<A.W→A.jw (S.cell v' j) (dF S.cell u a (A.jw (S.cell u a) (o.getD a 0)) v' j)=dF S.cell u a (A.jw (S.cell u a) (o.getD a 0)) v' j:=fun v' j pB hj=>by
   by_cases he:v'=u∧j=a
   ·obtain⟨rfl,rfl⟩:=he;rw[BB];exact M1 nG yQ
   ·rw[uh he];exact hrefl v' j pB hj
  refine⟨⟨bM,fun v' j pB hj=>?_,?_⟩,Jc⟩
  ·show A.jw (dF S.cell u a (A.jw (S.cell u a) (o.getD a 0)) v' j) (b v' j)=b v' j
   by_cases he:v'=u∧j=a
   ·obtain⟨rfl,rfl⟩:=he;rw[BB];exact aft nG yQ (hb.ok _ _ hu ha) (h.low _ _ hu ha) (h1.low _ h2 _ ha)
   ·rw[uh he];exact h.low v' j pB hj
  ·intro p oz
   rcases qG oz with oz | rfl
   ·exact (h.ph p oz).aiW (ht.tw p oz) h.ok bM Jc
   ·refine Uy h1 h2 h3 fun j hj hw=>?_;show A.jw (o.getD j 0) (dF S.cell u a (A.jw (S.cell u a) (o.getD a 0)) u j)=dF S.cell u a (A.jw (S.cell u a) (o.getD a 0)) u j
    rcases AM (C1 hj) with hj | rfl
    ·rw[uh (fun e=>by omega)];exact h4 j hj hw
    ·rw[BB];exact Uu nG yQ
 |none v o u r hp ha=>
  obtain⟨h1,h2,h3,h4,_⟩:=at_ hp;exact ke rfl rfl (Ej h1 h3)
 |flag v o u r hp hf=>
  obtain⟨h1,h2,h3,h4⟩:=at_ hp;exact ke rfl rfl ⟨h1,h2,h3,h4⟩
 |uN v o u r hp hf=>
  obtain⟨h1,h2,h3,h4⟩:=at_ hp;exact ke rfl rfl (Ej h1 h3)
 |add v o u r hp=>
  obtain⟨h1,h2,h3,h4⟩:=at_ hp;exact ke rfl rfl ⟨h1,h2,h3,h4⟩
 |push v o u r c hp hd=>
  obtain⟨h1,h2,h3,h4⟩:=at_ hp;exact ke rfl rfl (Ej h1 h3)
 |dK v hp=>exact ke rfl rfl trivial
 |uI hp hc=>exact ke rfl rfl trivial
end SX
end Go.Proofs.YtnikdflhefijbaaGreat
namespace Go.Proofs.YtnikdflhefijbaaGreat
set_option maxRecDepth 100000
set_option maxHeartbeats 4000000
namespace SX
variable {A:AP}
def I9(v:Nat):Ph→Prop
 |.join _ _ u _ _ _ ch=>u=v∧ch=true
 |.take _ _ u _=>u=v
 |_=>False
def yn(cell:Nat→Nat→Int)(v:Nat):Ph→Prop
 |.read z y=>z=v∧∀i,i<y.length→y.getD i 0=cell v i
 |_=>False
def Cl(A:AP)(cell:Nat→Nat→Int)(v u:Nat):Ph→Prop
 |.join z o u' r _ _ _=>z=v∧o=A.out v (mJ A cell v)∧(u=u'∨u∈r)
 |.take z o _ r | .add z o _ r | .push z o _ r _=>z=v∧o=A.out v (mJ A cell v)∧u∈r
 |_=>False
def Cw(A:AP)(cell:Nat→Nat→Int)(v u:Nat):Prop:=∀i,i<A.W→A.jw ((A.out v (mJ A cell v)).getD i 0) (cell u i)=cell u i
def zc(A:AP)(S:AS)(v:Nat):Prop:=
 S.flag v=true∨(∃p∈S.ph,I9 v p)∨(∃p∈S.ph,yn S.cell v p)∨∀u∈A.nx v,Cw A S.cell v u∨∃p∈S.ph,Cl A S.cell v u p
theorem RV{α:Type}{l:List α}{i:Nat}{p q x:α}(hi:l[i]?=some p)(hx:x∈l):x=p∨x∈l.set i q:=by
 obtain⟨j,hj⟩:=lq.1 hx
 by_cases h:i=j
 ·subst h;rw[hi]at hj;exact .inl (Option.some.inj hj).symm
 ·right
  refine lq.2 ⟨j,?_⟩;rw[eA,ag h];exact hj
theorem QY{α:Type}{l:List α}{i:Nat}{p q:α}(hi:l[i]?=some p):q∈l.set i q:=by
 refine lq.2 ⟨i,?_⟩;rw[eA,af rfl,af (bZ.1 hi).1]
theorem zc.keep{S S':AS}{i:Nat}{p q:Ph}{v:Nat}(h:zc A S v)(hi:S.ph[i]?=some p)(e1:S'.cell=S.cell)(e2:S'.ph=S.ph.set i q)
  (hf:S.flag v=true→S'.flag v=true∨yn S.cell v q) (hp:I9 v p→I9 v q∨S'.flag v=true) (hr:yn S.cell v p→yn S.cell v q∨∀u∈A.nx v,Cl A S.cell v u q) (hc:∀u,Cl A S.cell v u p→Cl A S.cell v u q∨Cw A S.cell v u):zc A S' v:=by
 have hq:q∈S'.ph:=by rw[e2];exact QY hi
 have hm:∀x∈S.ph,x=p∨x∈S'.ph:=fun x hx=>by rw[e2];exact RV hi hx
 rcases h with h | ⟨x,hx,h⟩ | ⟨x,hx,h⟩ | h
 ·rcases hf h with h | h
  ·exact .inl h
  ·exact .inr (.inr (.inl ⟨q,hq,by rw[e1];exact h⟩))
 ·rcases hm x hx with rfl | hx
  ·rcases hp h with h | h
   ·exact .inr (.inl ⟨q,hq,h⟩)
   ·exact .inl h
  ·exact .inr (.inl ⟨x,hx,h⟩)
 ·rcases hm x hx with rfl | hx
  ·rcases hr h with h | h
   ·exact .inr (.inr (.inl ⟨q,hq,by rw[e1];exact h⟩))
   ·exact .inr (.inr (.inr fun u hu=>.inr ⟨q,hq,by rw[e1];exact h u hu⟩))
  ·exact .inr (.inr (.inl ⟨x,hx,by rw[e1];exact h⟩))
 ·refine .inr (.inr (.inr fun u hu=>?_));rw[e1]
  rcases h u hu with h | ⟨x,hx,h⟩
  ·exact .inl h
  ·rcases hm x hx with rfl | hx
   ·rcases hc u h with h | h
    ·exact .inr ⟨q,hq,h⟩
    ·exact .inl h
   ·exact .inr ⟨x,hx,h⟩
theorem D3{cell:Nat→Nat→Int}{v z:Nat}{o:List Int}{r:List Nat}{u:Nat}(h1:z=v)(h2:o=A.out v (mJ A cell v))(h3:u∈r):Cl A cell v u (eV z o r):=by
 cases r with
 |nil=>cases h3
 |cons w r=>exact⟨h1,h2,by simpa using h3⟩
theorem RX{v z:Nat}{o:List Int}{u:Nat}{r:List Nat}{at_:Nat}{ch:Bool}(h:u=v∧ch=true):I9 v (dU A z o u r at_ ch).1:=by
 obtain⟨h1,rfl⟩:=h;unfold dU;split
 ·exact⟨h1,rfl⟩
 ·rw[af rfl];exact h1
theorem SY{cell:Nat→Nat→Int}{v z:Nat}{o:List Int}{u w:Nat}{r:List Nat}{at_:Nat}{ch:Bool}(h1:z=v)(h2:o=A.out v (mJ A cell v))(h3:w=u∨w∈r)(hj:∀i,i<at_+1→i<A.W→A.jw (o.getD i 0) (cell u i)=cell u i):Cl A cell v w (dU A z o u r at_ ch).1∨Cw A cell v w:=by
 unfold dU;split
 ·exact .inl ⟨h1,h2,h3⟩
 ·rename_i hw
  rcases h3 with rfl | h3
  ·exact .inr fun i hi=>by rw[← h2];exact hj i (by omega) hi
  ·split
   ·exact .inl ⟨h1,h2,h3⟩
   ·exact .inl (D3 h1 h2 h3)
theorem QQ{y z:List Int}(hl:y.length=z.length)(h:∀i,i<y.length→y.getD i 0=z.getD i 0):y=z:=by
 refine C8 hl fun i h1 h2=>?_;have:=h i h1;simpa [List.getD_eq_getElem?_getD,h1,h2]using this
theorem zc.step{b:Nat→Nat→Int}{S S':AS}{i:Nat}(ht:TI A S)(hv:VI A b S)(hs:Tr A S i S'){v:Nat}(dv:v<A.n)(h:zc A S v):zc A S' v:=by
 have at_:∀{p:Ph},S.ph[i]?=some p→wX A b S.cell p:=fun hp=>hv.ph _ (bU hp);cases hs with
 |stay=>exact h
 |uK a hp ha=>exact h.keep hp rfl rfl .inl (fun h=>h.elim) (fun h=>h.elim) fun u h=>h.elim
 |uL a hp hd=>exact h.keep hp rfl rfl .inl (fun h=>h.elim) (fun h=>h.elim) fun u h=>h.elim
 |uj a hp ha=>exact h.keep hp rfl rfl .inl (fun h=>h.elim) (fun h=>h.elim) fun u h=>h.elim
 |uk a hp=>exact h.keep hp rfl rfl .inl (fun h=>h.elim) (fun h=>h.elim) fun u h=>h.elim
 |ask hp hc=>exact h.keep hp rfl rfl .inl (fun h=>h.elim) (fun h=>h.elim) fun u h=>h.elim
 |uv z o u r a hp ha=>exact h.keep hp rfl rfl .inl (fun h=>h.elim) (fun h=>h.elim) fun u h=>.inl h
 |pop z c a hp hd=>exact h.keep hp rfl rfl .inl (fun h=>h.elim) (fun h=>h.elim) fun u h=>h.elim
 |cas z a hp hd=>exact h.keep hp rfl rfl .inl (fun h=>h.elim) (fun h=>h.elim) fun u h=>h.elim
 |vv z hp=>exact h.keep hp rfl rfl .inl (fun h=>h.elim) (fun h=>h.elim) fun u h=>h.elim
 |cu j z c a hp hd=>exact h.keep hp rfl rfl .inl (fun h=>h.elim) (fun h=>h.elim) fun u h=>h.elim
 |clear z hp=>
  refine h.keep hp rfl rfl (fun hf=>?_) (fun h=>h.elim) (fun h=>h.elim) fun u h=>h.elim
  by_cases hz:v=z
  ·exact .inr ⟨hz.symm,fun i hi=>absurd hi (oJ _)⟩
  ·left;show (if v=z then false else S.flag v)=true;rw[ag hz];exact hf
 |ur z y hp hy=>
  refine h.keep hp rfl rfl .inl (fun h=>h.elim) (fun h=>.inl ?_) fun u h=>h.elim;obtain⟨rfl,h2⟩:=h;refine⟨rfl,fun j hj=>?_⟩;simp at hj;rw[HH]
  by_cases iM:j<y.length
  ·rw[af iM];exact h2 j iM
  ·rw[ag iM,af (by omega),show j=y.length by omega]
 |uu z y y' hp hy=>
  refine h.keep hp rfl rfl .inl (fun h=>h.elim) (fun h=>.inr fun u hu=>?_) fun u h=>h.elim;obtain⟨rfl,h2⟩:=h
  have e:y'=mJ A S.cell z:=by
   rcases hy with ⟨hl,rfl⟩ | ⟨hw,rfl⟩
   ·refine QQ (by rw[HJ];simpa using hl) fun j hj=>?_;simp at hj;rw[DJ _ _ (by omega),HH]
    by_cases iM:j<y.length
    ·rw[af iM];exact h2 j iM
    ·rw[ag iM,af (by omega),show j=y.length by omega]
   ·exact QQ (by rw[HJ];exact hw.symm) fun j hj=>absurd hj (oJ _)
  exact D3 rfl (by rw[e]) hu
 |load z o u r a ch hp ha hx=>exact h.keep hp rfl rfl .inl .inl (fun h=>h.elim) fun u h=>.inl h
 |same z o u r a ch hp ha hx=>
  obtain⟨h1,h2,h3,h4,_⟩:=at_ hp;have hu:=ht.at_ hp (v:=u) (by simp[nodes]);refine h.keep hp rfl rfl .inl (fun h=>.inl (RX h)) (fun h=>h.elim) fun w hw=>?_;obtain⟨k1,k2,k3⟩:=hw;refine SY k1 k2 k3 fun j hj hw=>?_
  rcases AM (C1 hj) with hj | rfl
  ·exact h4 j hj hw
  ·rw[A.comm (h1.ok j hw) (hv.ok u j hu hw),hx]
 |lost z o u r a ch x hp ha hx=>exact h.keep hp rfl rfl .inl .inl (fun h=>h.elim) fun u h=>.inl h
 |uW z o u r a ch hp ha hx=>
  obtain⟨h1,h2,h3,h4,_⟩:=at_ hp;have hu:=ht.at_ hp (v:=u) (by simp[nodes]);have yQ:=h1.ok a ha;have nG:=hv.ok u a hu ha;have hq:(dU A z o u r a true).1∈(S.ph.set i (dU A z o u r a true).1):=QY hp
  by_cases Ke:v=u
  ·exact .inr (.inl ⟨_,hq,RX ⟨Ke.symm,rfl⟩⟩)
  ·have l7:∀j,dF S.cell u a (A.jw (S.cell u a) (o.getD a 0)) v j=S.cell v j:=fun j=>uh fun e=>Ke e.1;have hL:mJ A (dF S.cell u a (A.jw (S.cell u a) (o.getD a 0))) v=mJ A S.cell v:=abN Ke
   have hle:∀w∈A.nx v,Cw A S.cell v w→Cw A (dF S.cell u a (A.jw (S.cell u a) (o.getD a 0))) v w:=fun w hw hl j hj=>by
    rw[hL];have FV:=A.EN dv hw
    by_cases he:w=u∧j=a
    ·obtain⟨rfl,rfl⟩:=he;rw[BB];obtain⟨m1,m2⟩:=A.Ja dv (HJ (A:=A) S.cell v) fun j hj=>by rw[DJ _ _ hj];exact hv.ok v j dv hj
     exact le_trans (m2 _ hj) nG (A.O8 nG yQ) (hl _ hj) (M1 nG yQ)
    ·rw[uh he];exact hl j hj
   have hm:∀x∈S.ph,x=.join z o u r a (some (S.cell u a)) ch∨x∈S.ph.set i (dU A z o u r a true).1:=fun x hx=>RV hp hx
   rcases h with h | ⟨x,ki,h⟩ | ⟨x,ki,h⟩ | h
   ·exact .inl h
   ·rcases hm x ki with rfl | ki
    ·exact absurd h.1.symm Ke
    ·exact .inr (.inl ⟨x,ki,h⟩)
   ·rcases hm x ki with rfl | ki
    ·exact h.elim
    ·refine .inr (.inr (.inl ⟨x,ki,?_⟩));cases x with
     |read z' y=>exact⟨h.1,fun j hj=>by rw[h.2 j hj];exact (l7 j).symm⟩
     |_=>exact h.elim
   ·refine .inr (.inr (.inr fun w hw=>?_))
    rcases h w hw with h | ⟨x,ki,h⟩
    ·exact .inl (hle w hw h)
    ·rcases hm x ki with rfl | ki
     ·obtain⟨k1,k2,k3⟩:=h;have FV:=A.EN dv hw
      have:=SY (A:=A) (cell:=dF S.cell u a (A.jw (S.cell u a) (o.getD a 0))) (r:=r) (at_:=a) (ch:=true) k1 (k2.trans (by rw[hL])) k3 fun j hj hw=>by
       rcases AM (C1 hj) with hj | rfl
       ·rw[uh (fun e=>by omega)];exact h4 j hj hw
       ·rw[BB];exact Uu nG yQ
      rcases this with h | h
      ·exact .inr ⟨_,hq,h⟩
      ·exact .inl h
     ·right
      refine⟨x,ki,?_⟩;cases x with
      |join z' o' u' r' a' ld' ch'=>exact⟨h.1,h.2.1.trans (by rw[hL]),h.2.2⟩
      |take z' o' u' r'=>exact⟨h.1,h.2.1.trans (by rw[hL]),h.2.2⟩
      |add z' o' u' r'=>exact⟨h.1,h.2.1.trans (by rw[hL]),h.2.2⟩
      |push z' o' u' r' a'=>exact⟨h.1,h.2.1.trans (by rw[hL]),h.2.2⟩
      |_=>exact h.elim
 |none z o u r hp ha=>
  obtain⟨h1,h2,h3,h4,_⟩:=at_ hp;refine h.keep hp rfl rfl .inl (fun h=>by cases h.2) (fun h=>h.elim) fun w hw=>?_;obtain⟨k1,k2,k3⟩:=hw
  rcases k3 with rfl | k3
  ·exact .inr fun i hi=>by omega
  ·exact .inl (D3 k1 k2 k3)
 |flag z o u r hp hf=>
  refine h.keep hp rfl rfl (fun h=>.inl ?_) (fun h=>.inr ?_) (fun h=>h.elim) fun u h=>.inl h
  ·show (if v=u then true else S.flag v)=true;(split);rfl;exact h
  ·have h:u=v:=h;show (if v=u then true else S.flag v)=true;rw[af h.symm]
 |uN z o u r hp hf=>
  refine h.keep hp rfl rfl .inl (fun h=>.inr ?_) (fun h=>h.elim) fun w hw=>.inl (D3 hw.1 hw.2.1 hw.2.2);have h:u=v:=h;rw[← h];exact hf
 |add z o u r hp=>exact h.keep hp rfl rfl .inl (fun h=>h.elim) (fun h=>h.elim) fun u h=>.inl h
 |push z o u r c hp hd=>exact h.keep hp rfl rfl .inl (fun h=>h.elim) (fun h=>h.elim) fun w hw=>.inl (D3 hw.1 hw.2.1 hw.2.2)
 |dK z hp=>exact h.keep hp rfl rfl .inl (fun h=>h.elim) (fun h=>h.elim) fun u h=>h.elim
 |uI hp hc=>exact h.keep hp rfl rfl .inl (fun h=>h.elim) (fun h=>h.elim) fun u h=>h.elim
theorem rO{α:Type}{f:α→Nat}:∀{l:List α},(∀x∈l,f x=0)→aI f l=0
 | [],_=>rfl
 |a::l,h=>by
  show f a+aI f l=0;rw[h a (b9 ..),rO fun x hx=>h x (cQ _ hx)]
theorem TI.quiet{S:AS}(h:TI A S)(h0:S.aH=0):(∀c∈S.dq,c=[])∧(∀p∈S.ph,(∃d a,p=.idle d a)∨p=.done)∧∀v,S.flag v=false:=by
 have hc:=h.aH;have h1:∀c∈S.dq,c=[]:=fun c jM=>iz.1 (TL List.length (by omega) jM)
 have h2:∀p∈S.ph,(∃d a,p=.idle d a)∨p=.done:=fun p hp=>by
  have:=TL cw (l:=S.ph) (by omega) hp;cases p <;> simp[cw]at this <;> simp
 refine⟨h1,h2,fun v=>?_⟩;have ht:=h.tok v;have e1:aI (fun l:List Nat=>l.count v) S.dq=0:=rO fun c hc=>by rw[h1 c hc];rfl
 have e2:aI (jk v) S.ph=0:=rO fun p hp=>by rcases h2 p hp with ⟨d,a,rfl⟩ | rfl <;> rfl
 unfold SX.tok at ht;rw[e1,e2]at ht;cases hf:S.flag v with
 |false=>rfl
 |true=>rw[hf]at ht;cases ht
def Rest(S:AS):Prop:=.done∈S.ph→S.aH=0
theorem Rest.step{S S':AS}{i:Nat}(ht:TI A S)(h:Rest S)(hs:Tr A S i S'):Rest S':=by
 have key:∀{p q:Ph},S.ph[i]?=some p→q≠.done→Ph.done∈S.ph.set i q→S.aH=0:=fun hp hq hd=>by
  rcases qG hd with hd | hd
  ·exact h hd
  ·exact absurd hd.symm hq
 have hj:∀v o u r a ch,(dU A v o u r a ch).1≠.done:=fun v o u r a ch=>by
  unfold dU;split
  ·exact fun h=>by cases h
  ·split
   ·exact fun h=>by cases h
   ·cases r <;> exact fun h=>by cases h
 have hf:∀v o r,eV v o r≠.done:=fun v o r=>by cases r <;> exact fun h=>by cases h
 intro hd;cases hs with
 |stay=>exact h hd
 |uK a hp ha=>exact key hp (fun h=>by cases h) hd
 |uL a hp ha=>exact key hp (fun h=>by cases h) hd
 |uj a hp ha=>exact key hp (fun h=>by cases h) hd
 |uk a hp=>exact key hp (fun h=>by cases h) hd
 |ask hp hc=>exact key hp (fun h=>by cases h) hd
 |uv v o u r a hp ha=>exact key hp (fun h=>by cases h) hd
 |pop v c a hp h2=>exact key hp (fun h=>by cases h) hd
 |cas v a hp h2=>exact key hp (fun h=>by cases h) hd
 |vv v hp=>exact key hp (fun h=>by cases h) hd
 |cu j v c a hp h2=>exact key hp (fun h=>by cases h) hd
 |clear v hp=>exact key hp (fun h=>by cases h) hd
 |ur v y hp hy=>exact key hp (fun h=>by cases h) hd
 |uu v y y' hp hy=>exact key hp (hf _ _ _) hd
 |load v o u r a ch hp ha hx=>exact key hp (fun h=>by cases h) hd
 |same v o u r a ch hp ha hx=>exact key hp (hj _ _ _ _ _ _) hd
 |lost v o u r a ch x hp ha hx=>exact key hp (fun h=>by cases h) hd
 |uW v o u r a ch hp ha hx=>exact key hp (hj _ _ _ _ _ _) hd
 |none v o u r hp ha=>exact key hp (hf _ _ _) hd
 |flag v o u r hp h2=>exact key hp (fun h=>by cases h) hd
 |uN v o u r hp h2=>exact key hp (hf _ _ _) hd
 |add v o u r hp=>
  have h0:=key hp (fun h=>by cases h) hd;have:=ht.aH;have:=zA cw S.ph i _ hp;simp[cw]at this;omega
 |push v o u r c hp h2=>exact key hp (hf _ _ _) hd
 |dK v hp=>show S.aH-1=0;rw[key hp (fun h=>by cases h) hd]
 |uI hp hc=>exact hc
def iA:Ph→Nat
 |.held _ | .clear _ | .read .. | .take .. | .add .. | .push .. => 1
 |_=>0
theorem Ek(v:Nat)(o:List Int)(r:List Nat):iA (eV v o r)=0:=by cases r <;> rfl
theorem Uz(A:AP)(v:Nat)(o:List Int)(u:Nat)(r:List Nat)(at_:Nat)(ch:Bool):iA (dU A v o u r at_ ch).1=(dU A v o u r at_ ch).2:=by
 unfold dU;split
 ·rfl
 ·split
  ·rfl
  ·exact Ek _ _ _
def EI(S:AS)(n:Nat):Prop:=S.ev+aI List.length S.dq+aI iA S.ph≤n+S.jo
theorem EI.step{S S':AS}{i n:Nat}(h:EI S n)(hs:Tr A S i S'):EI S' n:=by
 unfold EI at h ⊢;have key:=fun p q (hp:S.ph[i]?=some p)=>fu iA S.ph i p q hp;have JB:=fun j (c d:List Nat) (hp:S.dq[j]?=some c)=>fu List.length S.dq j c d hp;cases hs with
 |stay=>exact h
 |uK a hp ha=>have:=key _ (.idle 0 (a+1)) hp;simp only[iA]at *;omega
 |uL a hp ha=>have:=key _ (.idle (if A.k<2 then 2 else 1) 0) hp;simp only[iA]at *;omega
 |uj a hp ha=>have:=key _ (.idle 1 (a+1)) hp;simp only[iA]at *;omega
 |uk a hp=>have:=key _ (.idle 2 0) hp;simp only[iA]at *;omega
 |ask hp hc=>have:=key _ (.idle (if A.k<2 then 0 else 1) 0) hp;simp only[iA]at *;omega
 |uv v o u r a hp ha=>have:=key _ (.push v o u r (a+1)) hp;simp only[iA]at *;omega
 |pop v c a hp hd=>have:=key _ (.clear v) hp;have:=JB _ _ c hd;simp[iA]at *;omega
 |cas v a hp hd=>have:=key _ (.held v) hp;have:=JB _ _ [] hd;simp[iA]at *;omega
 |vv v hp=>have:=key _ (.clear v) hp;simp[iA]at *;omega
 |cu j v c a hp hd=>have:=key _ (.clear v) hp;have:=JB _ _ c hd;simp[iA]at *;omega
 |clear v hp=>have:=key _ (.read v []) hp;simp[iA]at *;omega
 |ur v y hp hy=>have:=key _ (.read v (y++[S.cell v y.length])) hp;simp only[iA]at *;omega
 |uu v y y' hp hy=>have:=key _ (eV v (A.out v y') (A.nx v)) hp;rw[Ek]at this;simp only[iA]at *;omega
 |load v o u r a ch hp ha hx=>have:=key _ (.join v o u r a (some (S.cell u a)) ch) hp;simp only[iA]at *;omega
 |same v o u r a ch hp ha hx=>have:=key _ (dU A v o u r a ch).1 hp;rw[Uz]at this;simp only[iA]at *;omega
 |lost v o u r a ch x hp ha hx=>have:=key _ (.join v o u r a none ch) hp;simp only[iA]at *;omega
 |uW v o u r a ch hp ha hx=>have:=key _ (dU A v o u r a true).1 hp;rw[Uz]at this;simp only[iA]at *;omega
 |none v o u r hp ha=>have:=key _ (eV v o r) hp;rw[Ek]at this;simp only[iA]at *;omega
 |flag v o u r hp hf=>have:=key _ (.add v o u r) hp;simp only[iA]at *;omega
 |uN v o u r hp hf=>have:=key _ (eV v o r) hp;rw[Ek]at this;simp only[iA]at *;omega
 |add v o u r hp=>have:=key _ (.push v o u r 0) hp;simp only[iA]at *;omega
 |push v o u r c hp hd=>have:=key _ (eV v o r) hp;rw[Ek]at this;have:=JB _ _ (c++[u]) hd;simp only[iA,bQ,sN]at *;omega
 |dK v hp=>have:=key _ (.idle 0 0) hp;simp only[iA]at *;omega
 |uI hp hc=>have:=key _ .done hp;simp only[iA]at *;omega
def gb:Ph→Nat
 |.join _ _ _ _ _ _ true=>1
 |_=>0
theorem Em(v:Nat)(o:List Int)(r:List Nat):gb (eV v o r)=0:=by cases r <;> rfl
theorem UB(A:AP)(v:Nat)(o:List Int)(u:Nat)(r:List Nat)(at_:Nat)(ch:Bool):gb (dU A v o u r at_ ch).1+(dU A v o u r at_ ch).2=if ch then 1 else 0:=by
 unfold dU;split
 ·cases ch <;> rfl
 ·cases ch with
  |true=>rfl
  |false=>show gb (eV v o r)+0=0;rw[Em]
structure J3(A:AP)(Us:List Nat)(rk:(Nat→Int)→Nat):Prop where
 nodup:Us.Nodup
 all:∀v,v<A.n→∀u∈A.nx v,u∈Us
 up:∀(c:Nat→Int) (i:Nat) (x:Int),i<A.W→(∀j,j<A.W→A.ok j (c j))→A.ok i x→A.jw (c i) x≠c i→rk c+1≤rk fun j=>if j=i then A.jw (c i) x else c j
def JI(S:AS)(Us:List Nat)(rk:(Nat→Int)→Nat):Prop:=S.jo+aI gb S.ph≤aI (fun u=>rk (S.cell u)) Us
theorem Bb{α:Type}{f g:α→Nat}:∀{l:List α},(∀x∈l,f x=g x)→aI f l=aI g l
 | [],_=>rfl
 |a::l,h=>by
  show f a+aI f l=g a+aI g l;rw[h a (b9 ..),Bb fun x hx=>h x (cQ _ hx)]
theorem Ic{f g:Nat→Nat}{u:Nat}:∀{l:List Nat},l.Nodup→u∈l→(∀x∈l,x≠u→f x=g x)→aI f l+g u=aI g l+f u
 |a::l,hn,hu,h=>by
  obtain⟨h1,h2⟩:=lV.1 hn;show f a+aI f l+g u=g a+aI g l+f u
  rcases dm.1 hu with rfl | hu
  ·rw[Bb (f:=f) (g:=g) (l:=l) fun x hx=>h x (cQ _ hx) fun e=>h1 (e▸hx)];omega
  ·have:=Ic h2 hu fun x hx=>h x (cQ _ hx);rw[h a (b9 ..) fun e=>h1 (e▸hu)];omega
theorem JI.step{b:Nat→Nat→Int}{S S':AS}{i:Nat}{Us:List Nat}{rk:(Nat→Int)→Nat}(hr:J3 A Us rk)(ht:TI A S)(hv:VI A b S)(h:JI S Us rk)(hs:Tr A S i S'):JI S' Us rk:=by
 unfold JI at h ⊢;have key:=fun p q (hp:S.ph[i]?=some p)=>fu gb S.ph i p q hp;cases hs with
 |stay=>exact h
 |uK a hp ha=>have:=key _ (.idle 0 (a+1)) hp;simp only[gb]at *;omega
 |uL a hp ha=>have:=key _ (.idle (if A.k<2 then 2 else 1) 0) hp;simp only[gb]at *;omega
 |uj a hp ha=>have:=key _ (.idle 1 (a+1)) hp;simp only[gb]at *;omega
 |uk a hp=>have:=key _ (.idle 2 0) hp;simp only[gb]at *;omega
 |ask hp hc=>have:=key _ (.idle (if A.k<2 then 0 else 1) 0) hp;simp only[gb]at *;omega
 |uv v o u r a hp ha=>have:=key _ (.push v o u r (a+1)) hp;simp only[gb]at *;omega
 |pop v c a hp hd=>have:=key _ (.clear v) hp;simp only[gb]at *;omega
 |cas v a hp hd=>have:=key _ (.held v) hp;simp only[gb]at *;omega
 |vv v hp=>have:=key _ (.clear v) hp;simp only[gb]at *;omega
 |cu j v c a hp hd=>have:=key _ (.clear v) hp;simp only[gb]at *;omega
 |clear v hp=>have:=key _ (.read v []) hp;simp only[gb]at *;omega
 |ur v y hp hy=>have:=key _ (.read v (y++[S.cell v y.length])) hp;simp only[gb]at *;omega
 |uu v y y' hp hy=>have:=key _ (eV v (A.out v y') (A.nx v)) hp;rw[Em]at this;simp only[gb]at *;omega
 |load v o u r a ch hp ha hx=>
  have:=key _ (.join v o u r a (some (S.cell u a)) ch) hp;have e:gb (.join v o u r a (some (S.cell u a)) ch)=gb (.join v o u r a none ch):=by cases ch <;> rfl
  rw[e]at this;show S.jo+aI gb (S.ph.set i _)≤aI (fun u=>rk (S.cell u)) Us;omega
 |same v o u r a ch hp ha hx=>
  have:=key _ (dU A v o u r a ch).1 hp;have e:=UB A v o u r a ch;have e2:gb (.join v o u r a none ch)=if ch then 1 else 0:=by cases ch <;> rfl
  rw[e2]at this;show S.jo+(dU A v o u r a ch).2+aI gb (S.ph.set i _)≤aI (fun u=>rk (S.cell u)) Us;omega
 |lost v o u r a ch x hp ha hx=>
  have:=key _ (.join v o u r a none ch) hp;have e:gb (.join v o u r a (some x) ch)=gb (.join v o u r a none ch):=by cases ch <;> rfl
  rw[e]at this;show S.jo+aI gb (S.ph.set i _)≤aI (fun u=>rk (S.cell u)) Us;omega
 |uW v o u r a ch hp ha hx=>
  obtain⟨h1,h2,h3,h4,_⟩:=hv.ph _ (bU hp);have fh:=ht.at_ hp (v:=u) (by simp[nodes]);have dv:=ht.at_ hp (v:=v) (by simp[nodes]);have:=key _ (dU A v o u r a true).1 hp;have e:=UB A v o u r a true;rw[af rfl]at e;have mj:=hr.up (S.cell u) a (o.getD a 0) ha (fun j hj=>hv.ok u j fh hj) (h1.ok a ha) hx
  have mb:=Ic (f:=fun z=>rk (dF S.cell u a (A.jw (S.cell u a) (o.getD a 0)) z)) (g:=fun z=>rk (S.cell z)) hr.nodup (hr.all v dv u h2) fun z _ hz=>by
   show rk _=rk _
   congr 1
   funext j
   exact uh fun e=>hz e.1
  have e3:(dF S.cell u a (A.jw (S.cell u a) (o.getD a 0)) u)=fun j=>if j=a then A.jw (S.cell u a) (o.getD a 0) else S.cell u j:=by
   funext j;simp[dF]
  simp only[e3]at mb;have hone':aI (fun z=>rk (dF S.cell u a (A.jw (S.cell u a) (o.getD a 0)) z)) Us+rk (S.cell u)=aI (fun z=>rk (S.cell z)) Us+rk (fun j=>if j=a then A.jw (S.cell u a) (o.getD a 0) else S.cell u j):=mb;show S.jo+(dU A v o u r a true).2+aI gb (S.ph.set i _)≤aI (fun z=>rk (dF S.cell u a (A.jw (S.cell u a) (o.getD a 0)) z)) Us;omega
 |none v o u r hp ha=>have:=key _ (eV v o r) hp;rw[Em]at this;simp only[gb]at *;omega
 |flag v o u r hp hf=>have:=key _ (.add v o u r) hp;simp only[gb]at *;omega
 |uN v o u r hp hf=>have:=key _ (eV v o r) hp;rw[Em]at this;simp only[gb]at *;omega
 |add v o u r hp=>have:=key _ (.push v o u r 0) hp;simp only[gb]at *;omega
 |push v o u r c hp hd=>have:=key _ (eV v o r) hp;rw[Em]at this;simp only[gb]at *;omega
 |dK v hp=>have:=key _ (.idle 0 0) hp;simp only[gb]at *;omega
 |uI hp hc=>have:=key _ .done hp;simp only[gb]at *;omega
end SX
end Go.Proofs.YtnikdflhefijbaaGreat
