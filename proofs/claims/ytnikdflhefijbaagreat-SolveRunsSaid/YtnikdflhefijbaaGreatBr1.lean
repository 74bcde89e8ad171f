import Derived.Below
import Derived.BigQuiet
import Derived.Carry
import Derived.ChangeOld
import Derived.Deep.OwnRows
import Derived.Deep.QuietTactic
import Derived.Deep.Slices
import Derived.Handy
import Derived.Maps.AppendAt
import Derived.OpenShut
import Derived.ProofKit
import Derived.ShutString
import Derived.Stop.IfaceNil
import Derived.Test.YtnikdflhefijbaaGreatRows
import Derived.WalkKit
import Derived.WalkLawsBesides
import Derived.WalkSpells
import Derived.Laws.ComplexArith
import Derived.RangeFuncRecord
import Derived.MapFrom
namespace Go.Proofs.YtnikdflhefijbaaGreat
open Go.RowKit
abbrev bO:= @List.getD_eq_getElem?_getD
abbrev bN:= @List.getElem?_eq_getElem
abbrev bG:= @List.length_append
abbrev bE:= @List.mem_singleton
abbrev cR:= @List.getElem?_eq_some_iff
abbrev cp:= @Nat.le_of_ble_eq_true
abbrev eT:= @List.take_succ_eq_append_getElem
abbrev bR:= @Int.toNat_natCast
abbrev bj:= @decide_eq_true
abbrev dN:= @List.take_of_length_le
abbrev b9:= @Bool.and_eq_true
abbrev bU:= @List.mem_append
abbrev cF:= @List.mem_cons_self
abbrev aY:= @Nat.zero_le
abbrev dm:= @List.mem_of_getElem?
abbrev cq:= @List.getElem_mem
abbrev cm:= @List.length_map
abbrev cy:= @decide_eq_false
abbrev az:= @if_pos
abbrev dy:= @List.mem_cons_of_mem
abbrev cC:= @List.map_append
abbrev aA:= @if_neg
abbrev dh:= @List.append_assoc
abbrev bJ:= @Nat.le_refl
abbrev jm:= @List.length_eq_zero_iff
abbrev jG:= @Array.getD_eq_getD_getElem?
abbrev dW:= @List.take_length
abbrev iP:= @List.getElem?_append_right
abbrev dV:= @List.length_set
abbrev fm:= @List.getElem?_map
abbrev gF:= @List.mem_append_left
abbrev gY:= @List.length_replicate
abbrev fk:= @of_decide_eq_true
abbrev ey:= @Nat.le_trans
abbrev fN:= @List.all_eq_true
abbrev ky:= @List.getElem?_append_left
abbrev fG:= @List.drop_zero
abbrev iO:= @List.mem_append_right
abbrev ei:= @List.mem_cons
abbrev dU:= @Nat.zero_add
abbrev jF:= @Nat.eq_of_beq_eq_true
abbrev dB:= @Nat.mul_one
abbrev dA:= @Int.le_refl
abbrev gg:= @List.append_nil
abbrev gX:= @List.getElem?_set
abbrev gq:= @List.mem_range
abbrev fi:= @List.mem_map
abbrev iE:= @List.length_cons
abbrev mL:= @Int.toNat_of_nonneg
abbrev ke:= @Bool.not_eq_true'
abbrev ml:= @List.nodup_append
abbrev kx:= @List.length_range
abbrev jW:= @List.mem_filter
abbrev kv:= @List.any_eq_true
abbrev mK:= @List.length_pos_iff
abbrev Dy:= @List.length_filter_le
abbrev sa:= @Int.tmod_eq_emod_of_nonneg
abbrev pf:= @Nat.mul_le_mul_right
abbrev qV:= @Int.eq_ofNat_of_zero_le
abbrev r9:= @List.getElem?_eq_none
abbrev pc:= @of_decide_eq_false
abbrev nw:= @List.perm_middle
abbrev nu:= @List.mem_flatten
abbrev qe:= @List.range_succ
abbrev mJ:= @List.nodup_cons
abbrev qd:= @List.length_reverse
abbrev qc:= @List.getElem?_take
abbrev wW:= @List.getElem?_replicate
abbrev wV:= @List.flatMap_append
abbrev mj:= @Bool.false_or
abbrev qb:= @List.size_toArray
abbrev uU:= @List.filter_append
abbrev o9:= @Bool.or_eq_true
abbrev wU:= @Array.getElem?_eq_getElem
abbrev r8:= @Nat.eq_zero_or_pos
abbrev nt:= @Nat.sub_self
abbrev yv:= @List.length_singleton
abbrev Mb:= @List.flatten_append
abbrev tc:= @Nat.lt_of_lt_of_le
abbrev wT:= @Option.map_eq_some_iff
abbrev AB:= @List.length_pos_of_mem
abbrev qa:= @Nat.mul_le_mul
abbrev yu:= @List.drop_eq_getElem_cons
abbrev o8:= @List.map_cons
abbrev uT:= @List.length_take
abbrev yr:= @List.getElem?_toArray
abbrev uS:= @List.flatMap_cons
abbrev tb:= @List.all_append
abbrev r7:= @Int.natCast_add
abbrev uR:= @Bool.false_eq_true
abbrev wS:= @Nat.pow_le_pow_right
abbrev ta:= @Nat.mod_eq_of_lt
abbrev s9:= @List.not_mem_nil
abbrev s8:= @List.map_set
abbrev AA:= @Int.tdiv_eq_ediv_of_nonneg
abbrev yq:= @Nat.testBit_lt_two_pow
abbrev wR:= @List.getElem?_range
abbrev uQ:= @List.foldl_append
abbrev Az:= @Array.toList_append
abbrev Ay:= @List.mem_or_eq_of_mem_set
abbrev s7:= @Nat.not_lt_zero
abbrev Ma:= @Nat.ble_eq_true_of_le
abbrev Ax:= @List.take_append_drop
abbrev yp:= @List.mem_iff_getElem?
abbrev wQ:= @List.pairwise_cons
abbrev yo:= @List.getElem?_drop
abbrev yn:= @List.getElem?_of_mem
abbrev G9:= @List.filter_cons_of_neg
abbrev rZ:= @Nat.pow_zero
abbrev wP:= @List.flatten_cons
abbrev wO:= @List.ext_getElem?
abbrev uP:= @List.nil_append
abbrev Dx:= @Array.getElem?_eq_some_iff
abbrev L9:= @Array.getElem?_append_left
abbrev ym:= @Nat.lt_succ_self
abbrev G8:= @List.filter_cons
abbrev G7:= @List.set_append_right
abbrev Aw:= @List.eq_nil_or_concat
abbrev Av:= @Array.getElem?_toList
abbrev qU:= @Nat.pow_add
abbrev qT:= @Nat.add_mul
abbrev Au:= @List.mem_iff_getElem
abbrev G6:= @List.eq_of_mem_replicate
abbrev yl:= @Bool.eq_false_iff
abbrev G5:= @Array.getElem?_setIfInBounds_ne
abbrev uO:= @Nat.succ_mul
abbrev s6:= @Nat.lt_or_ge
abbrev G4:= @List.eq_nil_iff_forall_not_mem
abbrev L8:= @List.replicate_succ
abbrev As:= @List.map_eq_flatMap
abbrev Ar:= @List.map_congr_left
abbrev G3:= @List.filter_cons_of_pos
abbrev G2:= @List.take_append_of_le_length
abbrev L7:= @List.ext_getElem
abbrev Dw:= @List.drop_of_length_le
abbrev Dv:= @Array.size_eq_zero_iff
abbrev uN:= @Nat.add_zero
abbrev Du:= @Nat.add_assoc
abbrev Aq:= @List.pairwise_map
abbrev Ap:= @List.any_eq_false
abbrev Dt:= @Nat.eq_of_testBit_eq
abbrev G1:= @List.nodup_nil
abbrev go2:= @List.cons_append
abbrev L6:= @Array.length_toList
abbrev wN:= @Nat.zero_mul
abbrev wM:= @Nat.beq_refl
abbrev Ao:= @Nat.two_pow_pos
abbrev G0:= @Nat.testBit_mod_two_pow
abbrev GZ:= @Nat.add_sub_cancel_left
abbrev An:= @List.foldl_cons
abbrev gp0:= @List.filter_nil
abbrev yj:= @Bool.true_and
abbrev wL:= @Nat.mod_lt
abbrev Am:= @Bool.false_and
abbrev L5:= @Nat.and_two_pow_sub_one_eq_mod
abbrev GY:= @List.perm_append_comm
abbrev L4:= @List.drop_append_of_le_length
abbrev GX:= @List.pairwise_append
abbrev Al:= @Nat.mul_assoc
abbrev L3:= @List.mem_zipIdx_iff_getElem?
abbrev L2:= @Nat.two_pow_add_eq_or_of_lt
abbrev L1:= @Nat.testBit_two_pow_sub_one
abbrev L0:= @Nat.testBit_two_pow_mul_add
abbrev GW:= @Nat.pos_iff_ne_zero
abbrev Ds:= @Nat.log2_eq_iff
abbrev LZ:= @List.sublist_flatten_of_mem
abbrev Dr:= @Int.natCast_mul
abbrev Ak:= @Nat.mul_comm
abbrev GV:= @Nat.lt_of_le_of_lt
abbrev Aj:= @Nat.le_of_eq
abbrev GU:= @List.singleton_inj
abbrev GS:= @Int.tmod_lt_of_pos
abbrev GR:= @Int.natCast_nonneg
abbrev GQ:= @Int.natAbs_natCast
abbrev GP:= @Int.emod_lt_of_pos
abbrev GO:= @Bool.not_eq_false'
abbrev Dq:= @List.take_zero
abbrev LY:= @List.pairwise_iff_getElem
abbrev LX:= @Int.mul_neg_of_neg_of_pos
abbrev Dp:= @Bool.and_false
abbrev Ai:= @Nat.one_pos
abbrev Dn:= @Bool.not_true
abbrev Dm:= @Bool.and_true
abbrev GN:= @List.getElem_set
abbrev GM:= @List.getElem_map
abbrev GL:= @List.drop_length
abbrev GK:= @List.countP_cons
abbrev LW:= @List.pairwise_lt_range
abbrev LV:= @Nat.min_eq_left
abbrev gs9:= @List.zip_append
abbrev gt0:= @List.any_append
abbrev GJ:= @Int.natAbs_zero
abbrev Dl:= @Int.lt_or_le
abbrev GI:= @Int.emod_nonneg
abbrev gt4:= @Bool.beq_eq_decide_eq
abbrev LU:= @List.mem_erase_of_ne
abbrev LQ:= @List.eraseIdx_set_eq
abbrev GH:= @Nat.testBit_or
abbrev GG:= @Int.natAbs_mul
abbrev LP:= @Nat.testBit_two_pow
abbrev LO:= @List.mem_map_of_mem
abbrev gu1:= @List.filter_eq_self
abbrev GF:= @Nat.lt_irrefl
abbrev GD:= @List.sum_cons
abbrev LN:= @List.map_replicate
abbrev LM:= @Bool.false_ne_true
theorem sC{w:World}{k:Nat}{o:Obj}(h:w.heap[k]?=some o):k<w.heap.size:=(Dx.1 h).1
theorem IV{w:World}{k i:Nat}{c:Array Value}{t:TypeId}{fz:Nat×Nat}(h:w.heap[k]?=some (.cells c t fz)):w.cell? ⟨k,i,none⟩=c[i]?:=by simp[World.cell?,h]
theorem vx(w:World)(o:Obj):(w.alloc o).heap[w.heap.size]?=some o:=heap_alloc_new w o
end Go.Proofs.YtnikdflhefijbaaGreat
namespace Go.Proofs.YtnikdflhefijbaaGreat
open Go.RowKit Go.ChangeShapes Go.WideShapes Go.ChangeAt Go.Deep
inductive Sh where
 |int (k:IntKind)
 |bool
 |str
 |slice (e:Sh)
 |nil
 |field (f r:Sh)
def Sh.size:Sh→Nat
 |.int _=>1
 |.bool=>1
 |.str=>1
 |.slice _=>1
 |.nil=>0
 |.field f r=>f.size+r.size
def Sh.T:Sh→Type
 |.int _=>Int
 |.bool=>Bool
 |.str=>ByteArray
 |.slice e=>List e.T
 |.nil=>Unit
 |.field f r=>f.T×r.T
def Sh.Kr:(s:Sh)→s.T
 |.int _=>(0:Int)
 |.bool=>false
 |.str=>ByteArray.empty
 |.slice _=>[]
 |.nil=>()
 |.field f r=>(f.Kr,r.Kr)
def ui(w:World)(b o:Nat)(cs:List Value):Prop:=∀j u,cs[j]?=some u→w.cell? ⟨b,o+j,none⟩=some u
def Reads(w:World):(s:Sh)→List Value→s.T→Prop
 |.int k,cs,(n:Int)=>cs=[.int k n]∧(Lit.int k n).wf=true
 |.bool,cs,(b:Bool)=>cs=[.bool b]
 |.str,cs,(s:ByteArray)=>cs=[.string s]∧s.size≤maxLen
 |.slice e,cs,(l:List e.T)=>∃(a:Option Addr) (c:Nat),cs=[.slice a l.length c]∧l.length≤c∧c≤maxLen∧(a=none→c=0)∧
   (l≠[]→∃b o,a=some ⟨b,o,none⟩∧∀i,(h:i<l.length)→∃cs',cs'.length=e.size∧ui w b (o+i*e.size) cs'∧Reads w e cs' l[i])
 |.nil,cs,_=>cs=[]
 |.field f r,cs,(d:f.T×r.T)=>∃c1 c2,cs=c1++c2∧c1.length=f.size∧Reads w f c1 d.1∧Reads w r c2 d.2
def Sh.fit(P:Program):Sh→Sum TypeId (List Field×Nat)→Bool
 |.int k,.inl t=>match P.underlying t with | some (.int k')=>decide (k=k') | _=>false
 |.bool,.inl t=>match P.underlying t with | some .bool=>true | _=>false
 |.str,.inl t=>match P.underlying t with | some .string=>true | _=>false
 |.slice e,.inl t=>match P.underlying t with | some (.slice e')=>e.fit P (.inl e')&&decide (P.cellsOf e'=e.size)&&decide (0<e.size) | _=>false
 |.nil,.inr ([],_)=>true
 |.nil,.inl t=>match P.underlying t with | some (.struct fs)=>fs.toList.isEmpty&&decide (P.cellsOf t=0) | _=>false
 |.field f r,.inr (f0::fs,off)=>decide (f0.offset=off)&&decide (P.cellsOf f0.type=f.size)&&f.fit P (.inl f0.type)&&r.fit P (.inr (fs,off+f.size))
 |.field f r,.inl t=>match P.underlying t with
  |some (.struct fs)=>match fs.toList with
   |f0::Dz=>decide (P.cellsOf t=f.size+r.size)&&(decide (f0.offset=0)&&decide (P.cellsOf f0.type=f.size)&&f.fit P (.inl f0.type)&&r.fit P (.inr (Dz,f.size)))
   | []=>false
  |_=>false
 |_,_=>false
theorem xS{a b:Bool}(h:(a&&b)=true):a=true∧b=true:=by simpa using h
theorem ui.spot{w:World}{a:Addr}{n:Nat}{cs:List Value}(hn:0<n)(hl:cs.length=n)(h:∀i,i<n→w.cell? (a.add i)=cs[i]?):a.spot=none:=by
 have h0:=h 0 hn
 rw[bN (by omega)]at h0
 exact World.cell?_spot h0
theorem XM{H:Type}{enc:TypeId×Value→H}{P:Program}{w:World}{base:Nat}{spare:Nat→Bool}{held:Bool}(s:Sh):
  (∀(t:TypeId) (fuel:Nat) (cs:List Value) (x:DataW H×List MemPlace),s.fit P (.inl t)=true→DataW.trod enc P w base spare held fuel t cs=some x→cs.length=s.size∧∃d,Reads w s cs d)∧
  (∀(fs:List Field) (off n:Nat) (cs:List Value),s.fit P (.inr (fs,off))=true→cs.length=off+s.size→
   (∀(i:Nat) (f:Field),fs[i]?=some f→∃x,DataW.trod enc P w base spare held n f.type ((cs.drop f.offset).take (P.cellsOf f.type))=some x)→∃d,Reads w s (cs.drop off) d):=by
 induction s with
 |int k=>
  refine⟨fun t fuel cs x hf h=>?_,fun fs off n cs hf=>by simp[Sh.fit]at hf⟩
  unfold Sh.fit at hf
  split at hf
  ·rename_i k' hk
   have:=fk hf
   subst this
   obtain⟨n,rfl,_,hw⟩:=DataW.trod_int hk h
   exact⟨rfl,n,rfl,hw⟩
  ·cases hf
 |bool=>
  refine⟨fun t fuel cs x hf h=>?_,fun fs off n cs hf=>by simp[Sh.fit]at hf⟩
  unfold Sh.fit at hf
  split at hf
  ·rename_i hk
   obtain⟨b,rfl,_⟩:=DataW.trod_bool hk h
   exact⟨rfl,b,rfl⟩
  ·cases hf
 |str=>
  refine⟨fun t fuel cs x hf h=>?_,fun fs off n cs hf=>by simp[Sh.fit]at hf⟩
  unfold Sh.fit at hf
  split at hf
  ·rename_i hk
   obtain⟨b,rfl,_,hb⟩:=DataW.trod_string hk h
   exact⟨rfl,b,rfl,hb⟩
  ·cases hf
 |slice e ih=>
  refine⟨fun t fuel cs x hf h=>?_,fun fs off n cs hf=>by simp[Sh.fit]at hf⟩
  unfold Sh.fit at hf
  split at hf
  ·rename_i e' hk
   obtain⟨iN,h0⟩:=xS hf
   obtain⟨uF,eE⟩:=xS iN
   have eE:=fk eE
   have h0:=fk h0
   rcases open_slice hk h with ⟨rfl,_⟩ | ⟨a,len,cap,m,n,D,Pl,rfl,hb,hl,hm,hmm,_,hi⟩
   ·exact⟨rfl,[],none,0,rfl,Nat.le_refl _,by simp,fun _=>rfl,fun bc=>absurd rfl bc⟩
   ·have hlm:len≤m:=by rw[hmm];split <;> omega
    have hel:∀i,i<len→∃(y:List Value×e.T),y.1.length=e.size∧w.cells? base (a.add (i*e.size)) e.size=some y.1∧Reads w e y.1 y.2:=by
     intro i uE
     obtain⟨cs',h1,h2⟩:=hi i (by omega)
     obtain⟨h3,d,h4⟩:=ih.1 e' n cs' _ uF h2
     rw[eE]at h1
     exact⟨(cs',d),h3,h1,h4⟩
    obtain⟨V,hV⟩:= @choose_lt _ ⟨([],e.Kr)⟩ _ _ hel
    refine⟨rfl,(List.range len).map (fun i=>(V i).2),some a,cap,by simp,by simpa using hl,hm,(fun e=>by cases e),fun bc=>?_⟩
    have sJ:0<len:=by
     rcases r8 len with h | h
     ·subst h;exact absurd rfl bc
     ·exact h
    obtain⟨b,o,spot⟩:=a
    have acE:spot=none:=by
     obtain⟨q1,q2,_⟩:=hV 0 sJ
     obtain⟨_,q4,q5⟩:=World.cells?_some q2
     have:=ui.spot (a:=(⟨b,o,spot⟩:Addr).add (0*e.size)) h0 q4 q5
     unfold Addr.add at this
     split at this <;> simp_all
    subst acE
    refine⟨b,o,rfl,fun i hi=>?_⟩
    have oh:i<len:=by simpa using hi
    obtain⟨q1,q2,q3⟩:=hV i oh
    obtain⟨_,q4,q5⟩:=World.cells?_some q2
    refine⟨(V i).1,q1,fun j u hu=>?_,by simpa using q3⟩
    have hj:j<e.size:=by have:=(cR.1 hu).1;omega
    have:=q5 j hj
    rw[Addr.add_lit,Addr.add_lit]at this
    rw[this,hu]
  ·cases hf
 |nil=>
  refine⟨fun t fuel cs x hf h=>?_,fun fs off n cs hf hl _=>?_⟩
  ·unfold Sh.fit at hf
   split at hf
   ·rename_i fs hk
    obtain⟨_,hz⟩:=xS hf
    have hz:=fk hz
    obtain⟨xs,n,_,_,hlen,_⟩:=DataW.trod_struct hk h
    have:cs=[]:=jm.1 (by omega)
    exact⟨by simp[this,Sh.size],(),this⟩
   ·cases hf
  ·exact⟨(),List.drop_eq_nil_of_le (by simp[Sh.size]at hl;omega)⟩
 |field f r pS jS=>
  have key:∀(f0:Field) (fs:List Field) (off n:Nat) (cs:List Value),
    (decide (f0.offset=off)&&decide (P.cellsOf f0.type=f.size)&&f.fit P (.inl f0.type)&&r.fit P (.inr (fs,off+f.size)))=true→cs.length=off+(f.size+r.size)→
    (∀(i:Nat) (g:Field),(f0::fs)[i]?=some g→∃x,DataW.trod enc P w base spare held n g.type ((cs.drop g.offset).take (P.cellsOf g.type))=some x)→∃d,Reads w (.field f r) (cs.drop off) d:=by
   intro f0 fs off n cs hf hl hx
   obtain⟨iN,hr⟩:=xS hf
   obtain⟨uF,hff⟩:=xS iN
   obtain⟨ho,hc⟩:=xS uF
   have ho:=fk ho
   have hc:=fk hc
   obtain⟨x,hx0⟩:=hx 0 f0 rfl
   obtain⟨o6,d1,qS⟩:=pS.1 _ _ _ _ hff hx0
   obtain⟨d2,o7⟩:=jS.2 fs (off+f.size) n cs hr (by omega) (fun i g hg=>hx (i+1) g (by simpa using hg))
   refine⟨(d1,d2),(cs.drop f0.offset).take (P.cellsOf f0.type),cs.drop (off+f.size),?_,o6,qS,o7⟩
   rw[ho,hc,← List.drop_drop,Ax]
  refine⟨fun t fuel cs x hf h=>?_,fun fs off n cs hf hl hx=>?_⟩
  ·unfold Sh.fit at hf
   split at hf
   ·rename_i fs hk
    split at hf
    ·rename_i f0 Dz yd
     obtain⟨hz,hf'⟩:=xS hf
     have hz:=fk hz
     obtain⟨xs,n,_,_,hlen,x7,hg⟩:=DataW.trod_struct hk h
     have hl:cs.length=0+(f.size+r.size):=by omega
     obtain⟨d,hd⟩:=key f0 Dz 0 n cs (by simpa using hf') hl (fun i g hig=>by
      have hi:fs[i]?=some g:=by rw[← Av,yd];exact hig
      have:=hg i g hi
      have yb:i<xs.length:=by rw[x7];exact (Dx.1 hi).1
      exact⟨xs[i],by rw[this];exact bN yb⟩)
     exact⟨by simpa [Sh.size]using hl,d,by simpa using hd⟩
    ·cases hf
   ·cases hf
  ·cases fs with
   |nil=>simp[Sh.fit]at hf
   |cons f0 Dz=>exact key f0 Dz off n cs (by simpa [Sh.fit]using hf) (by simpa [Sh.size]using hl) hx
theorem N2{H:Type}{enc:TypeId×Value→H}{P:Program}{w:World}{base:Nat}{spare:Nat→Bool}{held:Bool}{t:TypeId}{v:Value}{d:DataW H}{p:List MemPlace}(s:Sh)(hs:s.fit P (.inl t)=true)
  (h:DataW.Trod enc P w base spare held t v d p):∃x:s.T,Reads w s v.cells.toList x:=by
 obtain⟨fuel,hf⟩:=h
 exact ((XM s).1 t fuel _ _ hs hf).2
theorem wf_u64{n:Int}(h:(Lit.int .u64 n).wf=true):0≤n∧n<18446744073709551616:=by
 have:=bounds_u64 h
 omega
inductive AV where
 |int (k:IntKind) (n:Int)
 |bool (b:Bool)
 |str (s:ByteArray)
 |af (e:Sh) (l:List e.T)
 |km
 |gZ
 |ak
 |ah (b off len e:Nat)
 |aG
 |ptr (b off:Nat)
 |fY (cs:List AV)
 |agg (cs:List AV)
 |tup (vs:List AV)
 |iface (t:TypeId) (v:AV)
 |nilif
 |fn (f:Fn) (first cap:List AV)
 |iI
 |oS
 |gr (n:Int)
 |fS (n m:Int)
 |any
 |via (v:AV)
 |nf (b:Nat)
 |nT (l:List (Int×Int))
 |nk (b:Nat)
 |rD (m c:Nat) (seen:List Nat)
 |mu (L:Loop) (t:Nat→AV)
abbrev Hp:Type:=List (Nat×List AV)
abbrev Tm:Type:=Nat→AV
def Sh.cells:(s:Sh)→s.T→List AV
 |.int k,(n:Int)=>[.int k n]
 |.bool,(b:Bool)=>[.bool b]
 |.str,(s:ByteArray)=>[.str s]
 |.slice e,(l:List e.T)=>[.af e l]
 |.nil,_=>[]
 |.field f r,(d:f.T×r.T)=>f.cells d.1++r.cells d.2
def AV.leaf:AV→Bool
 |.agg _ | .tup _ | .any | .nT _ | .rD _ _ _ | .mu _ _=>false
 |_=>true
def AV.cells?:AV→Option (List AV)
 |.agg cs=>some cs
 |.tup _ | .any | .nT _ | .rD _ _ _ | .mu _ _=>none
 |v=>some [v]
inductive TK where
 |int (k:IntKind) | bool | str | slice (e:TypeId) | ptr (e:TypeId) | bB (fs:List (Nat×TypeId)) | arr (n:Nat) (e:TypeId) | iface | func | map (k e:TypeId) | gr | fS | other
structure TI where
 k:TK
 size:Nat
 bytes:Nat
 zero:List AV
def TI.wide(i:TI):Bool:=match i.k with | .bB _ | .arr _ _=>true | _=>false
def y7:Value→AV
 |.int k n=>.int k n
 |.bool b=>.bool b
 |.string s=>.str s
 |.pointer none=>.aG
 |.slice none 0 0=>.ak
 |.nilIface=>.nilif
 |.nilFunc=>.iI
 |.map none=>.oS
 |_=>.any
def R4:Value→AV
 |.agg cs=>match (cs.toList.map y7).all AV.leaf with | true=>.agg (cs.toList.map y7) | false=>.any
 |.tuple vs=>match vs.toList with | []=>.tup [] | _=>.any
 |v=>y7 v
def ev(t:Tm):Operand→AV
 |.tmp i=>t i
 |.const v=>R4 v
 |.global _=>.any
 |.func f=>.fn (.func f) [] []
def put(t:Tm)(d:Option Tmp)(v:AV):Tm:=
 match d with
 |none=>t
 |some d=>fun i=>match Nat.beq i d with | true=>v | false=>t i
def BY(b:Bool)(A B:Prop):Prop:=match b with | true=>A | false=>B
theorem cQ{b:Bool}{A B:Prop}(h1:b=true→A)(h2:b=false→B):BY b A B:=by cases b;exact h2 rfl;exact h1 rfl
theorem aj{p:Prop}[Decidable p]{A B:Prop}(h1:p→A)(h2:¬p→B):BY (decide p) A B:=by
 by_cases h:p
 ·simp only[h,decide_true];exact h1 h
 ·simp only[h,decide_false];exact h2 h
theorem HI{b:Bool}{A B:Prop}(h:b=true)(h1:A):BY b A B:=by subst h;exact h1
theorem UG{b:Bool}{A B:Prop}(h:b=false)(h1:B):BY b A B:=by subst h;exact h1
def strict(v:AV)(K:AV→Prop):Prop:=
 match v with
 |.int k n=>K (.int k n)
 |.bool b=>K (.bool b)
 |.str s=>K (.str s)
 |.af e l=>K (.af e l)
 |.km=>K .km
 |.gZ=>K .gZ
 |.ak=>K .ak
 |.ah b o l e=>K (.ah b o l e)
 |.aG=>K .aG
 |.ptr b o=>K (.ptr b o)
 |.fY cs=>K (.fY cs)
 |.agg cs=>K (.agg cs)
 |.tup vs=>K (.tup vs)
 |.iface t v=>K (.iface t v)
 |.nilif=>K .nilif
 |.fn f a c=>K (.fn f a c)
 |.iI=>K .iI
 |.oS=>K .oS
 |.gr n=>K (.gr n)
 |.fS n m=>K (.fS n m)
 |.any=>K .any
 |.via v=>K (.via v)
 |.nf b=>K (.nf b)
 |.nT l=>K (.nT l)
 |.nk b=>K (.nk b)
 |.rD m c s=>K (.rD m c s)
 |.mu L t=>K (.mu L t)
theorem xg(v:AV)(K:AV→Prop):strict v K=K v:=by cases v <;> rfl
def bZ:AV→AV
 |.via v=>v
 |v=>v
structure aw(p:Prop)(X:Prop):Prop where
 fact:p
 go:X
def eF(i:TI)(cs:List AV)(off:Nat):Option AV:=
 match i.wide with
 |true=>match Nat.ble (off+i.size) cs.length with | true=>some (.agg ((cs.drop off).take i.size)) | false=>none
 |false=>cs[off]?
def gi(cs:List AV)(off:Nat):List AV→List AV
 | []=>cs
 |v::r=>gi (cs.set off v) (off+1) r
def kC(i:TI)(cs:List AV)(off:Nat)(v:AV):Option (List AV):=
 match v.cells? with
 |some vs=>match Nat.beq vs.length i.size,Nat.ble (off+i.size) cs.length with | true,true=>some (gi cs off vs) | _,_=>none
 |none=>none
inductive eH(i:TI)(σ:Hp)(b o:Nat)(K:AV→Prop):Prop where
 |mk (j:Nat) (cs:List AV) (v:AV) (h1:σ[j]?=some (b,cs)) (h2:eF i cs o=some v) (go:K v)
inductive EU(i:TI)(σ:Hp)(b o:Nat)(v:AV)(K:Hp→Prop):Prop where
 |mk (j:Nat) (cs cs':List AV) (h1:σ[j]?=some (b,cs)) (h2:kC i cs o v=some cs') (go:K (σ.set j (b,cs')))
theorem aW{i:TI}{σ:Hp}{b o:Nat}{K:AV→Prop}(j:Nat){cs:List AV}{v:AV}(h1:σ[j]?=some (b,cs))(h2:eF i cs o=some v)(go:K v):eH i σ b o K:=.mk j cs v h1 h2 go
theorem cu{i:TI}{σ:Hp}{b o:Nat}{v:AV}{K:Hp→Prop}(j:Nat){cs cs':List AV}(h1:σ[j]?=some (b,cs))(h2:kC i cs o v=some cs')(go:K (σ.set j (b,cs'))):EU i σ b o v K:=.mk j cs cs' h1 h2 go
theorem aa{i:TI}{σ:Hp}{b o:Nat}{K:AV→Prop}(j:Nat){cs:List AV}{v:AV}(go:K v)(h1:σ[j]?=some (b,cs):=by exact rfl)(h2:eF i cs o=some v:=by exact rfl):eH i σ b o K:=.mk j cs v h1 h2 go
theorem ag{i:TI}{σ:Hp}{b o:Nat}{v:AV}{K:Hp→Prop}(j:Nat){cs cs':List AV}(go:K (σ.set j (b,cs')))(h1:σ[j]?=some (b,cs):=by exact rfl)(h2:kC i cs o v=some cs':=by exact rfl):EU i σ b o v K:=.mk j cs cs' h1 h2 go
theorem bg{p q r s X:Prop}(go:X)(h1:p:=by omega)(h2:q:=by omega)(h3:r:=by omega)(h4:s:=by decide):aw (p∧q∧r∧s) X:=.mk ⟨h1,h2,h3,h4⟩ go
theorem aQ{p q r X:Prop}(go:X)(h1:p:=by exact rfl)(h2:q:=by omega)(h3:r:=by omega):aw (p∧q∧r) X:=.mk ⟨h1,h2,h3⟩ go
theorem dX{p X:Prop}(go:X)(h1:p:=by omega):aw p X:=.mk h1 go
inductive aX{α:Type}(l:List α)(n:Int)(K:α→Prop):Prop where
 |mk (x:α) (h0:0≤n) (h1:l[n.toNat]?=some x) (go:K x)
def rj(Q9:List (Nat×Nat))(cs:List AV):List (Nat×AV)→Option (List AV)
 | []=>some cs
 |(i,v)::r=>match Q9[i]?,v.cells? with
  |some (off,size),some vs=>match Nat.beq vs.length size,Nat.ble (off+size) cs.length with | true,true=>rj Q9 (gi cs off vs) r | _,_=>none
  |_,_=>none
def cN(z:List AV):Nat→List AV
 | 0=>[]
 |n+1=>z++cN z n
section
variable (P:Program) (TT:TypeId→Option TI)
def Bj:List (Nat×TypeId)→Option (List (Nat×Nat))
 | []=>some []
 |(off,t)::r=>match TT t,Bj r with | some i,some ps=>some ((off,i.size)::ps) | _,_=>none
def E5(t:TypeId)(parts:List (Nat×AV)):Option AV:=
 match TT t with
 |some ⟨.bB fs,_,_,z⟩=>match Bj TT fs with | some ps=>(rj ps z parts).map .agg | none=>none
 |some ⟨.arr n e,_,_,z⟩=>match TT e with | some i=>(rj ((List.range n).map fun j=>(j*i.size,i.size)) z parts).map .agg | none=>none
 |_=>none
def pD(i:TI)(a:AV)(σ:Hp)(K:AV→Prop):Prop:=
 match a with
 |.fY cs=>match eF i cs 0 with | some v=>K v | none=>False
 |.ptr b o=>eH i σ b o K
 |_=>False
def n0(b:Bool)(K:AV→Prop):Prop:=BY b (K (.bool true)) (K (.bool false))
def zh(k:TK)(want:Bool)(x y:AV)(K:AV→Prop):Prop:=
 match k,x,y with
 |.ptr _,.aG,.aG=>K (.bool want)
 |.ptr _,.ptr _ _,.aG=>K (.bool !want)
 |.ptr _,.fY _,.aG=>K (.bool !want)
 |.slice _,.ak,.ak=>K (.bool want)
 |.slice _,.ah _ _ _ _,.ak=>K (.bool !want)
 |.slice _,.gZ,.ak=>K (.bool !want)
 |.slice _,.af _ l,.ak=>aw (0<l.length) (K (.bool !want))
 |.iface,.nilif,.nilif=>K (.bool want)
 |.iface,.iface _ _,.nilif=>K (.bool !want)
 |.func,.iI,.iI=>K (.bool want)
 |.func,.fn _ _ _,.iI=>K (.bool !want)
 |_,_,_=>False
def Qm:Operand→Bool
 |.const _=>true
 |_=>false
def FN(op:BinOp)(k:IntKind)(a b:Int)(K:AV→Prop):Prop:=
 match op with
 |.add=>K (.int k (k.wrap (a+b)))
 |.sub=>K (.int k (k.wrap (a-b)))
 |.mul=>K (.int k (k.wrap (a*b)))
 |.quo=>aw (b≠0) (K (.int k (k.wrap (a.tdiv b))))
 |.rem=>aw (b≠0) (K (.int k (a.tmod b)))
 |.and | .or | .xor | .andNot=>K (.int k (bits op k a b))
 |.eql=>n0 (decide (a=b)) K
 |.neq=>n0 (!decide (a=b)) K
 |.lss=>n0 (decide (a<b)) K
 |.leq=>n0 (decide (a≤b)) K
 |.gtr=>n0 (decide (b<a)) K
 |.geq=>n0 (decide (b≤a)) K
 |_=>False
def EW(op:BinOp)(k:IntKind)(a b:Int)(K:AV→Prop):Prop:=
 match op with
 |.shl=>aw (0≤b) (K (.int k (k.wrap (a*2 ^ (min b.toNat k.bits)))))
 |.shr=>aw (0≤b) (K (.int k (a.fdiv (2 ^ (min b.toNat k.bits)))))
 |_=>False
def Cp(op:BinOp)(t:TypeId)(y0:Operand)(x y:AV)(K:AV→Prop):Prop:=
 match x,y with
 |.int k a,.int k' b=>match op with
  |.shl | .shr=>EW op k a b K
  |_=>match decide (k=k') with | true=>FN op k a b K | false=>False
 |.bool a,.bool b=>match TT t with
  |some ⟨.bool,_,_,_⟩=>(match op with | .eql=>n0 (a == b) K | .neq=>n0 (!(a == b)) K | _=>False)
  |_=>False
 |.str a,.str b=>match op with | .eql=>n0 (a.toList == b.toList) K | .neq=>n0 (!(a.toList == b.toList)) K | _=>False
 |x,y=>match Qm y0,TT t with
  |true,some i=>(match op with | .eql=>zh i.k true x y K | .neq=>zh i.k false x y K | _=>False)
  |_,_=>False
def abt:AV→AV→Bool
 |.int _ a,.int _ b=>decide (a=b)
 |.bool a,.bool b=>a == b
 |.str a,.str b=>a.toList == b.toList
 |_,_=>false
def rn(xs ys:List AV):List Bool:=List.zipWith abt xs ys
def gl(l:List Bool):Bool:=l.all id
def F4(TT:TypeId→Option TI)(rec:TypeId→AV→AV→Option (List Bool))(xs ys:List AV):List Field→Option (List Bool)
 | []=>some []
 | f :: fs => match f.name == "_", TT f.type with
  |false,some i=>match eF i xs f.offset,eF i ys f.offset with
   |some a,some b=>match rec f.type a b,F4 TT rec xs ys fs with | some l,some l'=>some (l++l') | _,_=>none
   |_,_=>none
  |_,_=>none
def FZ(TT:TypeId→Option TI)(rec:TypeId→AV→AV→Option (List Bool))(e:TypeId)(c:Nat)(xs ys:List AV):List Nat→Option (List Bool)
 | []=>some []
 |k::ks=>match TT e with
  |some i=>match eF i xs (k*c),eF i ys (k*c) with
   |some a,some b=>match rec e a b,FZ TT rec e c xs ys ks with | some l,some l'=>some (l++l') | _,_=>none
   |_,_=>none
  |none=>none
def yw(P:Program)(TT:TypeId→Option TI):Nat→TypeId→AV→AV→Option (List Bool)
 | 0,_,_,_=>none
 |d+1,t,x,y=>match P.underlying t,x,y with
  |some .bool,.bool a,.bool b=>some [a == b]
  |some (.int _),.int k a,.int k' b=>(match decide (k=k') with | true=>some [decide (a=b)] | false=>none)
  |some .string,.str a,.str b=>some [a.toList == b.toList]
  |some (.struct fs),.agg xs,.agg ys=>(match P.stoodInHeld t with | true=>none | false=>F4 TT (yw P TT d) xs ys fs.toList)
  |some (.array n e),.agg xs,.agg ys=>(match TT e with | some _=>FZ TT (yw P TT d) e (P.cellsOf e) xs ys (List.range n) | none=>none)
  |_,_,_=>none
inductive EqAt(P:Program)(TT:TypeId→Option TI)(t:TypeId)(xs ys:List AV)(K:Bool→Prop):Prop where
 |mk (h1:P.eqGuardType P.depth t=false) (h2:yw P TT 8 t (.agg xs) (.agg ys)=some (rn xs ys)) (go:K (gl (rn xs ys))):EqAt P TT t xs ys K
def ib(n:Int):Prop:=n.natAbs<9007199254740992
def Ks(op:BinOp)(a b c d:Int)(K:AV→Prop):Prop:=
 match op with
 |.add=>aw (ib (a+c)∧ib (b+d)) (K (.fS (a+c) (b+d)))
 |.sub=>aw (ib (a-c)∧ib (b-d)) (K (.fS (a-c) (b-d)))
 |.mul=>aw ((ib (a*c)∧ib (b*d)∧ib (a*c-b*d))∧ib (a*d)∧ib (b*c)∧ib (a*d+b*c)) (K (.fS (a*c-b*d) (a*d+b*c)))
 |_=>False
def BW(x y:AV)(K:AV→Prop):Prop:=match x,y with | .gr a,.gr b=>K (.fS a b) | _,_=>False
def BI(x:AV)(K:AV→Prop):Prop:=match x with | .fS a _=>K (.gr a) | _=>False
def BM(x:AV)(K:AV→Prop):Prop:=match x with | .fS _ b=>K (.gr b) | _=>False
def Cq(P:Program)(TT:TypeId→Option TI)(op:BinOp)(t:TypeId)(y0:Operand)(x y:AV)(K:AV→Prop):Prop:=
 match x,y with
 |.agg xs,.agg ys=>match op with
  |.eql=>EqAt P TT t xs ys fun b=>n0 b K
  |.neq=>EqAt P TT t xs ys fun b=>n0 (!b) K
  |_=>False
 |.fS a b,.fS c d=>Ks op a b c d K
 |x,y=>Cp TT op t y0 x y K
def CA(op:UnOp)(x:AV)(K:AV→Prop):Prop:=
 match op,x with
 |.not,.bool b=>K (.bool !b)
 |.neg,.int k n=>K (.int k (k.wrap (0-n)))
 |.xor,.int k n=>K (.int k (bits .xor k (if k.signed then -1 else k.max) n))
 |.neg,.gr n=>K (.gr (-n))
 |_,_=>False
def BX(s d:TypeId)(x:AV)(K:AV→Prop):Prop:=
 match TT s,TT d,x with
 |some _,some ⟨.int k,_,_,_⟩,.int _ n=>K (.int k (k.wrap n))
 |some _,some ⟨.gr,_,_,_⟩,.int _ n=>aw (ib n) (K (.gr n))
 |some _,some ⟨.int k,_,_,_⟩,.gr n=>aw (k.min≤n∧n≤k.max) (K (.int k n))
 |_,_,_=>False
def sy:Option AV→Option Int
 |none=>some 0
 |some (.int _ n)=>some n
 |_=>none
def zn(len:Nat):Option AV→Option Int
 |none=>some len
 |some (.int _ n)=>some n
 |_=>none
def y6(t:TypeId)(x:AV)(lo hi mx:Option AV)(K:AV→Prop):Prop:=
 match TT t,mx with
 |some ⟨.slice e,_,_,_⟩,none=>match TT e,x with
  |some i,.ah b off len es=>match sy lo,zn len hi with
   |some l,some h=>aw (0≤l∧l≤h∧h≤len∧i.size=es) (K (.ah b (off+l.toNat*es) (h.toNat-l.toNat) es))
   |_,_=>False
  |some i,.af s xs=>match sy lo,zn xs.length hi with
   |some l,some h=>aw (0≤l∧l≤h∧h≤xs.length∧i.size=s.size) (K (.af s ((xs.drop l.toNat).take (h.toNat-l.toNat))))
   |_,_=>False
  |some _,.ak=>match sy lo,zn 0 hi with
   |some l,some h=>aw (0≤l∧l≤h∧h≤(0:Nat)) (K .ak)
   |_,_=>False
  |_,_=>False
 |some ⟨.slice e,_,_,_⟩,some (.int _ m)=>match TT e,x,hi with
  |some i,.ah b off len es,some (.int _ h)=>match sy lo with
   |some l=>aw (0≤l∧l≤h∧h≤m∧m≤len∧i.size=es) (K (.ah b (off+l.toNat*es) (h.toNat-l.toNat) es))
   |_=>False
  |_,_,_=>False
 |_,_=>False
def AO(t:TypeId)(x ix:AV)(K:AV→Prop):Prop:=
 match TT t,ix with
 |some ⟨.slice e,_,_,_⟩,.int _ n=>match TT e,x with
  |some i,.af s l=>aw (i.size=s.size) (aX l n fun d=>K (.fY (s.cells d)))
  |some i,.ah b off len es=>aw (i.size=es∧0≤n∧n<len) (K (.ptr b (off+n.toNat*es)))
  |_,_=>False
 |some ⟨.arr m e,_,_,_⟩,.int _ n=>match TT e,x with
  |some i,.ptr b o=>aw (0≤n∧n<m) (K (.ptr b (o+n.toNat*i.size)))
  |some i,.fY cs=>aw (0≤n∧n<m) (K (.fY (cs.drop (n.toNat*i.size))))
  |_,_=>False
 |_,_=>False
def getM:List (Int×Int)→Int→Option Int
 | [],_=>none
 |p::l,n=>if p.1=n then some p.2 else getM l n
def qE:List (Int×Int)→Int→Int→List (Int×Int)
 | [],n,x=>[(n,x)]
 |p::l,n,x=>if p.1=n then (n,x)::l else p::qE l n x
inductive FF(σ:Hp)(m:AV)(K:Nat→Nat→List (Int×Int)→Prop):Prop where
 |mk (j b:Nat) (l:List (Int×Int)) (hm:m=.nf b) (h1:σ[j]?=some (b,[.nT l])) (go:K j b l):FF σ m K
def zD(t:TypeId):Option Int:=match TT t with
 |some ⟨.map k e,_,_,_⟩=>(match TT k,TT e with | some ⟨.int .i64,_,_,_⟩,some ⟨.int .i64,_,_,[.int .i64 z]⟩=>some z | _,_=>none)
 |_=>none
def Bm(t:TypeId)(m k:AV)(c:Bool)(σ:Hp)(K:AV→Prop):Prop:=
 match zD TT t,k with
 |some z,.int .i64 n=>FF σ m fun _ _ l=>(match c with | true=>K (.tup [.int .i64 ((getM l n).getD z),.bool (getM l n).isSome]) | false=>K (.int .i64 ((getM l n).getD z)))
 |_,_=>False
def AR(s:TypeId)(x:AV)(f:Nat)(K:AV→Prop):Prop:=
 match TT s with
 |some ⟨.bB fs,_,_,_⟩=>match fs[f]? with
  |some (off,t)=>match TT t with
   |some i=>match Nat.blt 0 i.size,x with
    |true,.ptr b o=>K (.ptr b (o+off))
    |true,.fY cs=>K (.fY (cs.drop off))
    |_,_=>False
   |none=>False
  |none=>False
 |_=>False
def BA(s:TypeId)(x:AV)(f:Nat)(K:AV→Prop):Prop:=
 match TT s,x with
 |some ⟨.bB fs,_,_,_⟩,.agg cs=>match fs[f]? with
  |some (off,t)=>match TT t with | some i=>(match eF i cs off with | some v=>K v | none=>False) | none=>False
  |none=>False
 |_,_=>False
def Cb(k:TK)(x:AV)(K:AV→Prop):Prop:=
 match k,x with
 |.slice _,.af _ l=>K (.int .i64 l.length)
 |.slice _,.ah _ _ len _=>K (.int .i64 len)
 |.slice _,.ak=>K (.int .i64 0)
 |.slice _,.km=>K (.int .i64 0)
 |.slice _,.gZ=>K (.int .i64 0)
 |_,_=>False
def Co(k:TK)(x:AV)(K:AV→Prop):Prop:=
 match k,x with
 |.slice _,.ak=>K (.int .i64 0)
 |.slice _,.km=>K (.int .i64 0)
 |_,_=>False
def B8(xs:List AV)(K:AV→Prop):Prop:=
 match xs with
 | [.int k a,.int k' b]=>match decide (k=k') with | true=>K (.int k (if b<a then b else a)) | false=>False
 |_=>False
def B9(xs:List AV)(K:AV→Prop):Prop:=
 match xs with
 | [.int k a,.int k' b]=>match decide (k=k') with | true=>K (.int k (if a<b then b else a)) | false=>False
 |_=>False
def AheadOk(t:TypeId)(m:String)(x:AV):Prop:=match x with
 |.ptr _ _=>∀(a:Addr) (w:World),(nilAhead (P.types.size+Made.depth) t (.pointer (some a)) m).run P w=.ok (some false) w
 |.agg [.ptr _ _]=>∀(a:Addr) (w:World),(nilAhead (P.types.size+Made.depth) t (.agg #[.pointer (some a)]) m).run P w=.ok (some false) w
 |_=>False
inductive eY(t:TypeId)(m:String)(x:AV)(X:Prop):Prop where
 |mk (h:AheadOk P t m x) (go:X):eY t m x X
def fM(op:Op)(ρ:Operand→AV)(σ:Hp)(K:AV→Prop):Prop:=
 match op with
 |.move x | .assign x=>strict (ρ x) K
 |.pick c a b=>match ρ c with | .bool x=>(match x with | true=>strict (ρ a) K | false=>strict (ρ b) K) | _=>False
 |.build t parts=>match E5 TT t (parts.toList.map fun p=>(p.1,ρ p.2)) with | some v=>K v | none=>False
 |.load t a=>match TT t with | some i=>pD i (ρ a) σ K | none=>False
 |.nilCheck x=>match ρ x with | .ptr b o=>K (.ptr b o) | .fY cs=>K (.fY cs) | .fn (.func f) a c=>K (.fn (.func f) a c) | .fn (.method m) [.iface t v] c=>eY P t m v (K (.fn (.method m) [.iface t v] c)) | .iface t v=>K (.iface t v) | _=>False
 |.binOp op t x y _=>Cq P TT op t y (bZ (ρ x)) (bZ (ρ y)) K
 |.unOp op _ x=>CA op (ρ x) K
 |.convert s d x=>BX TT s d (ρ x) K
 |.makeInterface t x=>match TT t with | some ⟨.iface,_,_,_⟩=>False | some _=>K (.iface t (ρ x)) | none=>False
 |.makeFunc f first cap=>K (.fn f (first.toList.map ρ) (cap.toList.map ρ))
 |.slice t x lo hi mx=>y6 TT t (bZ (ρ x)) (lo.map fun x=>bZ (ρ x)) (hi.map fun x=>bZ (ρ x)) (mx.map fun x=>bZ (ρ x)) K
 |.fieldAddr s x f=>AR TT s (ρ x) f K
 |.field s x f=>BA TT s (ρ x) f K
 |.indexAddr t x ix=>AO TT t (bZ (ρ x)) (bZ (ρ ix)) K
 |.typeAssert x _ t ok=>match ok,TT t,ρ x with
  |true,some ⟨.ptr _,_,_,[.aG]⟩,.iface t' v=>(match Nat.beq t' t with | true=>K (.tup [v,.bool true]) | false=>K (.tup [.aG,.bool false]))
  |true,some ⟨.ptr _,_,_,[.aG]⟩,.nilif=>K (.tup [.aG,.bool false])
  |_,_,_=>False
 |.lookup t m k c=>Bm TT t (bZ (ρ m)) (bZ (ρ k)) c σ K
 |.extract x i=>match ρ x with | .tup vs=>(match vs[i]? with | some v=>K v | none=>False) | _=>False
 |.call ⟨.builtin .len,args,cJ⟩=>match args.toList,cJ.toList with | [x],[t]=>(match TT t with | some i=>Cb i.k (bZ (ρ x)) K | none=>False) | _,_=>False
 |.call ⟨.builtin .min,args,_⟩=>match args.toList with | [x,y]=>B8 [ρ x,ρ y] K | _=>False
 |.call ⟨.builtin .max,args,_⟩=>match args.toList with | [x,y]=>B9 [ρ x,ρ y] K | _=>False
 |.call ⟨.builtin .complex,args,_⟩=>match args.toList with | [x,y]=>BW (ρ x) (ρ y) K | _=>False
 |.call ⟨.builtin .real,args,_⟩=>match args.toList with | [x]=>BI (ρ x) K | _=>False
 |.call ⟨.builtin .imag,args,_⟩=>match args.toList with | [x]=>BM (ρ x) K | _=>False
 |.call ⟨.builtin .cap,args,cJ⟩=>match args.toList,cJ.toList with | [x],[t]=>(match TT t with | some i=>Co i.k (bZ (ρ x)) K | none=>False) | _,_=>False
 |_=>False
end
end Go.Proofs.YtnikdflhefijbaaGreat
namespace Go.Proofs.YtnikdflhefijbaaGreat
open Ieee
def nO(d:Datum)(N:Int):Prop:=∃s m p,d=.number s m p∧m*2 ^ p.toNat=N.natAbs*2 ^ (-p).toNat∧(N≠0→s=decide (N<0))
theorem yT(m k:Nat):m <<< k=m*2 ^ k:=Nat.shiftLeft_eq m k
theorem UZ(s:Bool)(m u:Nat):(signed s m u).natAbs=m*2 ^ u:=by
 unfold signed
 rw[yT]
 split
 ·rw[Int.natAbs_neg,GQ]
 ·rw[GQ]
theorem HO{m A:Nat}{p base:Int}(h:m*2 ^ p.toNat=A*2 ^ (-p).toNat)(hb:base≤p):m*2 ^ (p-base).toNat*2 ^ base.toNat=A*2 ^ (-base).toNat:=by
 rcases Dl base 0 with h0 | h0
 ·rcases Dl p 0 with h1 | h1
  ·have e1:p.toNat=0:=by omega
   have e2:base.toNat=0:=by omega
   rw[e1,rZ,dB]at h
   rw[e2,rZ,dB,h,Al,← qU]
   congr 2;omega
  ·have e1:(-p).toNat=0:=by omega
   have e2:base.toNat=0:=by omega
   have e3:(p-base).toNat=p.toNat+(-base).toNat:=by omega
   rw[e1,rZ,dB]at h
   rw[e2,rZ,dB,e3,qU,← Al,h]
 ·have e1:(-p).toNat=0:=by omega
  have e2:(-base).toNat=0:=by omega
  rw[e1,rZ,dB]at h
  rw[e2,rZ,dB,Al,← qU,← h]
  congr 2;omega
theorem Hw{s:Bool}{m u:Nat}{N:Int}{A B:Nat}(h:m*2 ^ u*A=N.natAbs*B)(hs:N≠0→s=decide (N<0))(hA:0<A):signed s m u*(A:Int)=N*(B:Int):=by
 have h':((m*2 ^ u:Nat):Int)*(A:Int)=(N.natAbs:Int)*(B:Int):=by exact_mod_cast h
 by_cases h0:N=0
 ·subst h0
  have hm:m*2 ^ u=0:=by
   have:m*2 ^ u*A=0:=by rw[h];simp
   rcases Nat.mul_eq_zero.1 this with h1 | h1
   ·exact h1
   ·omega
  have:signed s m u=0:=Int.natAbs_eq_zero.1 (by rw[UZ,hm])
  rw[this];simp
 ·have hs:=hs h0
  subst hs
  unfold signed
  rw[yT]
  by_cases hn:N<0
  ·rw[bj hn,az rfl,Int.neg_mul,h',← Int.neg_mul]
   congr 1;omega
  ·rw[cy hn,aA (by decide),h']
   congr 1;omega
theorem pq(k:Nat):0<2 ^ k:=Ao k
theorem Oj{d e:Datum}{N M:Int}(hd:nO d N)(he:nO e M):∃x,d.sum e=some x∧nO x (N+M):=by
 obtain⟨s,m,i,rfl,h1,h2⟩:=hd
 obtain⟨t,n,j,rfl,h3,h4⟩:=he
 refine⟨_,rfl,_,_,_,rfl,?_,?_⟩
 all_goals
  have e1:=Hw (HO h1 (Int.min_le_left i j)) h2 (pq _)
  have e2:=Hw (HO h3 (Int.min_le_right i j)) h4 (pq _)
  have e3:(signed s m (i-min i j).toNat+signed t n (j-min i j).toNat)*((2 ^ (min i j).toNat:Nat):Int)=(N+M)*((2 ^ (-(min i j)).toNat:Nat):Int):=by rw[Int.add_mul,e1,e2,Int.add_mul]
 ·have:=congrArg Int.natAbs e3
  rw[GG,GG,GQ,GQ]at this
  exact this
 ·intro bc
  generalize signed s m (i-min i j).toNat+signed t n (j-min i j).toNat=T at e3
  have hp:=pq (min i j).toNat
  have hq:=pq (-(min i j)).toNat
  generalize (2:Nat) ^ (min i j).toNat=P at e3 hp
  generalize (2:Nat) ^ (-(min i j)).toNat=Q at e3 hq
  have hT:T≠0:=by
   intro h0
   rw[h0,Int.zero_mul]at e3
   rcases Int.mul_eq_zero.1 e3.symm with h5 | h5
   ·exact bc h5
   ·omega
  rw[aA hT]
  refine decide_eq_decide.2 ⟨fun h=>?_,fun h=>?_⟩
  ·have:T*(P:Int)<0:=LX h (by omega)
   rw[e3]at this
   rcases Dl (N+M) 0 with h5 | h5
   ·exact h5
   ·have:=Int.mul_nonneg h5 (show (0:Int)≤Q by omega)
    omega
  ·have:(N+M)*(Q:Int)<0:=LX h (by omega)
   rw[← e3]at this
   rcases Dl T 0 with h5 | h5
   ·exact h5
   ·have:=Int.mul_nonneg h5 (show (0:Int)≤P by omega)
    omega
theorem Ol{d:Datum}{N:Int}(h:nO d N):nO d.opposite (-N):=by
 obtain⟨s,m,p,rfl,h1,h2⟩:=h
 refine⟨_,_,_,rfl,by rw[Int.natAbs_neg];exact h1,fun bc=>?_⟩
 rw[h2 (by omega)]
 by_cases hn:N<0
 ·rw[bj hn,cy (by omega)];rfl
 ·rw[cy hn,bj (by omega)];rfl
theorem Vl{d e:Datum}{N M:Int}(hd:nO d N)(he:nO e M):∃x,d.product e=some x∧nO x (N*M):=by
 obtain⟨s,m,i,rfl,h1,h2⟩:=hd
 obtain⟨t,n,j,rfl,h3,h4⟩:=he
 refine⟨_,rfl,_,_,_,rfl,?_,fun bc=>?_⟩
 ·rw[GG]
  have h5:(m*2 ^ i.toNat)*(n*2 ^ j.toNat)=(N.natAbs*2 ^ (-i).toNat)*(M.natAbs*2 ^ (-j).toNat):=by rw[h1,h3]
  obtain⟨c,Ad,uI⟩:∃c,i.toNat+j.toNat=(i+j).toNat+c∧(-i).toNat+(-j).toNat=(-(i+j)).toNat+c:=⟨i.toNat+j.toNat-(i+j).toNat,by omega,by omega⟩
  have e1:(m*2 ^ i.toNat)*(n*2 ^ j.toNat)=(m*n*2 ^ (i+j).toNat)*2 ^ c:=by
   rw[Al (m*n),← qU,← Ad,qU];ac_rfl
  have e2:(N.natAbs*2 ^ (-i).toNat)*(M.natAbs*2 ^ (-j).toNat)=(N.natAbs*M.natAbs*2 ^ (-(i+j)).toNat)*2 ^ c:=by
   rw[Al (N.natAbs*M.natAbs),← qU,← uI,qU];ac_rfl
  rw[e1,e2]at h5
  exact Nat.eq_of_mul_eq_mul_right (pq c) h5
 ·have hN:N≠0:=fun h=>bc (by rw[h,Int.zero_mul])
  have hM:M≠0:=fun h=>bc (by rw[h,Int.mul_zero])
  rw[h2 hN,h4 hM]
  rcases Int.lt_or_gt_of_ne hN with a | a <;> rcases Int.lt_or_gt_of_ne hM with b | b
  ·have:=Int.mul_pos_of_neg_of_neg a b
   rw[bj a,bj b,cy (by omega)];rfl
  ·have:=LX a b
   rw[bj a,cy (by omega),bj this];rfl
  ·have:=Int.mul_neg_of_pos_of_neg a b
   rw[cy (by omega),bj b,bj this];rfl
  ·have:=Int.mul_pos a b
   rw[cy (by omega),cy (by omega),cy (by omega)];rfl
theorem Hm{A k:Nat}(h:A≠0):(A*2 ^ k).log2=A.log2+k:=by
 have bc:A*2 ^ k≠0:=Nat.mul_ne_zero h (GW.1 (pq k))
 refine (Ds bc).2 ⟨?_,?_⟩
 ·rw[qU];exact pf _ ((Ds h).1 rfl).1
 ·rw[show A.log2+k+1=A.log2+1+k by omega,qU]
  exact Nat.mul_lt_mul_of_pos_right ((Ds h).1 rfl).2 (pq k)
theorem H4(gR:Toward)(neg:Bool){A k:Nat}(h:A≠0):gR.cut neg (A*2 ^ k) k=A:=by
 have jw:min k ((A*2 ^ k).log2+2)=k:=by rw[Hm h];omega
 unfold Toward.cut
 dsimp only
 rw[jw,yT,Nat.one_mul,Nat.mul_div_cancel _ (pq k),Nat.mul_mod_left]
 cases gR
 ·have h1:¬2 ^ k<2*0:=by simp
  have h2:((2 ^ k:Nat) == 2*0)=false:=by
   have:=pq k
   simp
  simp[h2]
 ·cases neg <;> rfl
 ·cases neg <;> rfl
 ·rfl
theorem Yy(gR:Toward)(neg:Bool)(k:Nat):gR.cut neg 0 k=0:=by
 unfold Toward.cut
 dsimp only
 have jw:1 <<< min k ((0:Nat).log2+2)≠0:=by rw[yT,Nat.one_mul];exact GW.1 (pq _)
 generalize (1:Nat) <<< min k ((0:Nat).log2+2)=g at jw
 rw[Nat.zero_div,Nat.zero_mod]
 cases gR
 ·have h2:(g == 2*0)=false:=by simpa using jw
  simp[h2]
 ·cases neg <;> rfl
 ·cases neg <;> rfl
 ·rfl
theorem Uw{d:Datum}{N:Int}(h:nO d N):d.toInt .zero=some N:=by
 obtain⟨s,m,p,rfl,h1,h2⟩:=h
 have e:Toward.zero.cut s (m <<< p.toNat) (-p).toNat=N.natAbs:=by
  rw[yT,h1]
  by_cases h0:N=0
  ·subst h0;rw[GJ,wN];exact Yy _ _ _
  ·exact H4 _ _ (by omega)
 show some (signed s (Toward.zero.cut s (m <<< p.toNat) (-p).toNat) 0)=some N
 rw[e]
 congr 1
 have:=Hw (s:=s) (m:=N.natAbs) (u:=0) (N:=N) (A:=1) (B:=1) (by simp) h2 (by decide)
 simpa using this
theorem VP(s:Bool){rung:Nat}(h:rung<2 ^ 63):(double.word s rung / double.signWeight % 2 == 1)=s∧double.word s rung % double.signWeight=rung:=by
 have hw:double.signWeight=9223372036854775808:=by decide
 have h':rung<9223372036854775808:=h
 unfold Format.word
 rw[hw]
 cases s
 ·rw[aA (by decide)]
  refine⟨?_,by omega⟩
  rw[show rung / 9223372036854775808=0 by omega];rfl
 ·rw[az rfl]
  refine⟨?_,by omega⟩
  rw[show (9223372036854775808+rung) / 9223372036854775808=1 by omega];rfl
theorem N3(s:Bool):double.read (double.word s 0)=.number s 0 (-1074):=by
 cases s <;> decide
theorem Ui(s:Bool){L kept:Nat}(hL:L≤52)(h1:4503599627370496≤kept)(h2:kept<9007199254740992):double.read (double.word s ((L+1022)*4503599627370496+kept))=.number s kept ((L:Int)-52):=by
 have hb:double.binade=4503599627370496:=by decide
 have hi:double.infRung=9218868437227405312:=by decide
 have hl:double.leastPlace = -1074:=by decide
 obtain⟨e1,e2⟩:=VP s (rung:=(L+1022)*4503599627370496+kept) (by show _<9223372036854775808;omega)
 unfold Format.read
 dsimp only
 rw[e1,e2,hb,hi,hl,aA (by omega),az (by omega)]
 congr 1
 ·omega
 ·have:((L+1022)*4503599627370496+kept) / 4503599627370496=L+1023:=by omega
  rw[this];omega
theorem Uv{d:Datum}{N:Int}(h:nO d N)(hN:N.natAbs<9007199254740992):nO (double.read (double.write d)) N:=by
 obtain⟨s,m,p,rfl,h1,h2⟩:=h
 have hb:double.binade=4503599627370496:=by decide
 have hi:double.infRung=9218868437227405312:=by decide
 have hl:double.leastPlace = -1074:=by decide
 show nO (double.read (double.nearest s m p)) N
 by_cases h0:N=0
 ·subst h0
  have hm:m=0:=by
   rw[GJ,wN]at h1
   rcases Nat.mul_eq_zero.1 h1 with h | h
   ·exact h
   ·exact absurd h (GW.1 (pq _))
  subst hm
  have:double.nearest s 0 p=double.word s 0:=rfl
  rw[this,N3]
  exact⟨s,0,-1074,rfl,by rw[wN,GJ,wN],fun h=>absurd rfl h⟩
 ·obtain⟨A,hA⟩:∃A,A=N.natAbs:=⟨_,rfl⟩
  rw[← hA]at h1 hN
  have p8:A≠0:=by omega
  have Gv:m≠0:=by
   intro h
   subst h
   rw[wN]at h1
   rcases Nat.mul_eq_zero.1 h1.symm with h | h
   ·exact p8 h
   ·exact absurd h (GW.1 (pq _))
  have adX:(p:Int)+m.log2=A.log2:=by
   have e:=congrArg Nat.log2 h1
   rw[Hm Gv,Hm p8]at e
   omega
  obtain⟨L,hL⟩:∃L,L=A.log2:=⟨_,rfl⟩
  rw[← hL]at adX
  have Dk:=((Ds p8).1 hL.symm).1
  have hA2:=((Ds p8).1 hL.symm).2
  have aed:L≤52:=by
   refine Nat.le_of_not_lt fun h=>?_
   have:2 ^ 53≤2 ^ L:=wS (by decide) h
   have:(2:Nat) ^ 53=9007199254740992:=by decide
   omega
  obtain⟨K,hK⟩:∃K,K=A*2 ^ (52-L):=⟨_,rfl⟩
  have hK1:4503599627370496≤K:=by
   have:2 ^ L*2 ^ (52-L)≤K:=by rw[hK];exact pf _ Dk
   rw[← qU,show L+(52-L)=52 by omega]at this
   exact this
  have hK2:K<9007199254740992:=by
   have:K<2 ^ (L+1)*2 ^ (52-L):=by rw[hK];exact Nat.mul_lt_mul_of_pos_right hA2 (pq _)
   rw[← qU,show L+1+(52-L)=53 by omega]at this
   exact this
  have hK0:K≠0:=by omega
  have acK:max (p+(m.log2:Int)-52) (-1074)=(L:Int)-52:=by omega
  have iK:Toward.even.cut s (m <<< (p-((L:Int)-52)).toNat) (((L:Int)-52)-p).toNat=K:=by
   rw[yT]
   rcases Dl p ((L:Int)-52) with h | h
   ·have e1:(p-((L:Int)-52)).toNat=0:=by omega
    have e2:p.toNat=0:=by omega
    rw[e2,rZ,dB]at h1
    rw[e1,rZ,dB,h1]
    have e3:(-p).toNat=(52-L)+(((L:Int)-52)-p).toNat:=by omega
    rw[e3,qU,← Al,← hK]
    exact H4 _ _ hK0
   ·have e1:(((L:Int)-52)-p).toNat=0:=by omega
    have e2:=HO h1 h
    rw[show ((L:Int)-52).toNat=0 by omega,rZ,dB,show (-((L:Int)-52)).toNat=52-L by omega,← hK]at e2
    rw[e1,e2]
    have:=H4 .even s (A:=K) (k:=0) hK0
    rw[rZ,dB]at this
    exact this
  have hn:double.nearest s m p=double.word s ((L+1022)*4503599627370496+K):=by
   unfold Format.nearest
   rw[aA Gv]
   dsimp only
   rw[hl,hb,hi]
   show double.word s (min ((max (p+(m.log2:Int)-52) (-1074) - -1074).toNat*4503599627370496+Toward.even.cut s (m <<< (p-max (p+(m.log2:Int)-52) (-1074)).toNat) (max (p+(m.log2:Int)-52) (-1074)-p).toNat) 9218868437227405312)=_
   rw[acK,iK,show ((L:Int)-52 - -1074).toNat=L+1022 by omega]
   have jw:(L+1022)*4503599627370496+K≤9218868437227405312:=by omega
   exact congrArg (double.word s) (LV jw)
  have e:double.read (double.nearest s m p)=.number s K ((L:Int)-52):=(congrArg double.read hn).trans (Ui s aed hK1 hK2)
  rw[e]
  refine⟨s,K,(L:Int)-52,rfl,?_,h2⟩
  rw[← hA,show ((L:Int)-52).toNat=0 by omega,rZ,dB,show (-((L:Int)-52)).toNat=52-L by omega]
  exact hK
structure jn(b:Nat)(N:Int):Prop where
 lt:b<2 ^ 64
 isInt:nO (double.read b) N
theorem Wy(N:Int):nO (.number (decide (N<0)) N.natAbs 0) N:=⟨_,_,_,rfl,by simp,fun _=>rfl⟩
theorem Ea{d:Datum}{N:Int}(h:nO d N)(hN:N.natAbs<9007199254740992):jn (double.write d) N:=⟨double.write_lt d,Uv h hN⟩
theorem abw{N:Int}(hN:N.natAbs<9007199254740992):jn (Go.FloatKind.nearest .f64 N) N:=Ea (Wy N) hN
theorem IL{x y:Nat}{N M:Int}(hx:jn x N)(hy:jn y M)(h:(N+M).natAbs<9007199254740992):∃r,floatBits .add .f64 x y=some r∧jn r (N+M):=by
 obtain⟨d,e1,e2⟩:=Oj hx.isInt hy.isInt
 exact⟨double.write d,congrArg (Option.map double.write) e1,Ea e2 h⟩
theorem IK{x y:Nat}{N M:Int}(hx:jn x N)(hy:jn y M)(h:(N-M).natAbs<9007199254740992):∃r,floatBits .sub .f64 x y=some r∧jn r (N-M):=by
 obtain⟨d,e1,e2⟩:=Oj hx.isInt (Ol hy.isInt)
 rw[← Int.sub_eq_add_neg]at e2
 exact⟨double.write d,congrArg (Option.map double.write) e1,Ea e2 h⟩
theorem EM{x y:Nat}{N M:Int}(hx:jn x N)(hy:jn y M)(h:(N*M).natAbs<9007199254740992):∃r,floatBits .mul .f64 x y=some r∧jn r (N*M):=by
 obtain⟨d,e1,e2⟩:=Vl hx.isInt hy.isInt
 exact⟨double.write d,congrArg (Option.map double.write) e1,Ea e2 h⟩
theorem Z2{x:Nat}{N:Int}(hx:jn x N)(k:IntKind)(h:k.min≤N∧N≤k.max):floatToIntVal .f64 x k=some N:=by
 unfold floatToIntVal
 have:(FloatKind.f64.decode x).toInt .zero=some N:=Uw hx.isInt
 rw[this]
 exact az h
theorem Iq:jn 0 0:=⟨by decide,⟨false,0,-1074,N3 false,by rw[wN,GJ,wN],fun h=>absurd rfl h⟩⟩
theorem PB{b:Nat}(h:b<2 ^ 64):b ^^^ 2 ^ 63=if b<2 ^ 63 then b+2 ^ 63 else b-2 ^ 63:=by
 have e:((BitVec.ofNat 64 b) ^^^ (BitVec.ofNat 64 (2 ^ 63))).toNat=b ^^^ 2 ^ 63:=by
  rw[BitVec.toNat_xor,BitVec.toNat_ofNat,BitVec.toNat_ofNat,ta h,ta (by decide)]
 by_cases hb:b<2 ^ 63
 ·rw[az hb]
  have:=L2 hb 1
  rw[dB]at this
  rw[Nat.add_comm,this]
  refine Dt fun i=>?_
  rw[Nat.testBit_xor,GH,LP]
  by_cases hi:63=i
  ·subst hi
   rw[yq hb];rfl
  ·rw[decide_eq_false hi];simp
 ·rw[aA hb]
  obtain⟨c,rfl⟩:∃c,b=2 ^ 63+c:=⟨b-2 ^ 63,by omega⟩
  have hc:c<2 ^ 63:=by
   have:(2:Nat) ^ 64=2 ^ 63+2 ^ 63:=by decide
   omega
  have:=L2 hc 1
  rw[dB]at this
  rw[GZ,this]
  refine Dt fun i=>?_
  rw[Nat.testBit_xor,GH,LP]
  by_cases hi:63=i
  ·subst hi
   rw[yq hc];rfl
  ·rw[decide_eq_false hi];simp
theorem Z1{x:Nat}{N:Int}(hx:jn x N):jn (Go.Op.negFloat .f64 x) (-N):=by
 have e:Go.Op.negFloat .f64 x=x ^^^ 2 ^ 63:=rfl
 have ab:x<18446744073709551616:=hx.lt
 have hsw:double.signWeight=9223372036854775808:=by decide
 have acI:double.read (x ^^^ 2 ^ 63)=(double.read x).opposite:=by
  rw[PB hx.lt]
  have LJ:(2:Nat) ^ 63=9223372036854775808:=by decide
  rw[LJ]
  unfold Format.read
  dsimp only
  rw[hsw]
  by_cases hb:x<9223372036854775808
  ·rw[az hb,show (x+9223372036854775808) / 9223372036854775808 % 2=1 by omega,show (x+9223372036854775808) % 9223372036854775808=x by omega,show x / 9223372036854775808 % 2=0 by omega,show x % 9223372036854775808=x by omega]
   repeat' split
   all_goals rfl
  ·rw[aA hb,show (x-9223372036854775808) / 9223372036854775808 % 2=0 by omega,show (x-9223372036854775808) % 9223372036854775808=x-9223372036854775808 by omega,show x / 9223372036854775808 % 2=1 by omega,show x % 9223372036854775808=x-9223372036854775808 by omega]
   repeat' split
   all_goals rfl
 rw[e]
 refine⟨?_,by rw[acI];exact Ol hx.isInt⟩
 rw[PB hx.lt]
 have LJ:(2:Nat) ^ 63=9223372036854775808:=by decide
 have jV:(2:Nat) ^ 64=18446744073709551616:=by decide
 rw[LJ,jV]
 split <;> omega
def nE(w:World)(b:Nat):Prop:=∃c T fz,w.heap[b]?=some (.cells c T fz)
def FC(F:Nat→Prop)(w:World)(b:Nat):Prop:=F b∧nE w b
def kG(F:Nat→Prop)(w:World):(s:Sh)→List Value→s.T→Prop
 |.int k,cs,(n:Int)=>cs=[.int k n]
 |.bool,cs,(b:Bool)=>cs=[.bool b]
 |.str,cs,(s:ByteArray)=>cs=[.string s]
 |.slice e,cs,(l:List e.T)=>∃(a:Option Addr) (c:Nat),cs=[.slice a l.length c]∧l.length≤c∧c≤maxLen∧(a=none→c=0)∧
   (l≠[]→∃b o,a=some ⟨b,o,none⟩∧FC F w b∧∀i,(h:i<l.length)→∃cs',cs'.length=e.size∧ui w b (o+i*e.size) cs'∧kG F w e cs' l[i])
 |.nil,cs,_=>cs=[]
 |.field f r,cs,(d:f.T×r.T)=>∃c1 c2,cs=c1++c2∧c1.length=f.size∧kG F w f c1 d.1∧kG F w r c2 d.2
def Cw(w:World)(b off len e:Nat)(a:Addr)(cap:Nat):Prop:=
 ∃c T fz,w.heap[b]?=some (.cells c T fz)∧len≤cap∧cap≤maxLen∧((a=⟨b,off,none⟩∧off+cap*e≤c.size)∨(a.block=b∧a.spot=none∧len=0∧cap=0))
inductive aF(F:Nat→Prop)(w:World):AV→Value→Prop where
 |int (k:IntKind) (n:Int):aF F w (.int k n) (.int k n)
 |bool (b:Bool):aF F w (.bool b) (.bool b)
 |str (s:ByteArray):aF F w (.str s) (.string s)
 |af (e:Sh) (l:List e.T) (v:Value) (h:kG F w (.slice e) [v] l):aF F w (.af e l) v
 |km (a:Option Addr):aF F w .km (.slice a 0 0)
 |gZ (a:Addr) (c:Nat) (h:c≤maxLen):aF F w .gZ (.slice (some a) 0 c)
 |ak:aF F w .ak (.slice none 0 0)
 |ah (b off len e:Nat) (a:Addr) (cap:Nat) (h:Cw w b off len e a cap):aF F w (.ah b off len e) (.slice (some a) len cap)
 |aG:aF F w .aG (.pointer none)
 |ptr (b off:Nat) (h:nE w b):aF F w (.ptr b off) (.pointer (some ⟨b,off,none⟩))
 |fY (cs:List AV) (b o:Nat) (f:Nat→Value) (hF:FC F w b) (h1:∀i x,cs[i]?=some x→w.cell? ⟨b,o+i,none⟩=some (f i)) (hl:∀(i:Nat) (x:AV),cs[i]?=some x→x.leaf=true) (h:∀i x,cs[i]?=some x→aF F w x (f i)):aF F w (.fY cs) (.pointer (some ⟨b,o,none⟩))
 |agg (cs:List AV) (vs:Array Value) (hs:cs.length=vs.size) (hl:∀(i:Nat) (x:AV),cs[i]?=some x→x.leaf=true) (h:∀i x,cs[i]?=some x→aF F w x (vs.getD i undef)):aF F w (.agg cs) (.agg vs)
 |tup (cs:List AV) (vs:Array Value) (hs:cs.length=vs.size) (h:∀i x,cs[i]?=some x→aF F w x (vs.getD i undef)):aF F w (.tup cs) (.tuple vs)
 |iface (t:TypeId) (a:AV) (v:Value) (h:aF F w a v):aF F w (.iface t a) (.iface t v)
 |nilif:aF F w .nilif .nilIface
 |fn (f:Fn) (c1 c2:List AV) (v1 v2:Array Value) (fE:c1.length=v1.size) (gV:c2.length=v2.size) (h1:∀i x,c1[i]?=some x→aF F w x (v1.getD i undef)) (h2:∀i x,c2[i]?=some x→aF F w x (v2.getD i undef)):aF F w (.fn f c1 c2) (.func f v1 v2)
 |iI:aF F w .iI .nilFunc
 |oS:aF F w .oS (.map none)
 |gr (n:Int) (b:Nat) (h:jn b n):aF F w (.gr n) (.float .f64 b)
 |fS (n m:Int) (a b:Nat) (h1:jn a n) (h2:jn b m):aF F w (.fS n m) (.complex .f64 a b)
 |any (v:Value):aF F w .any v
 |via (x:AV) (v:Value) (hl:x.leaf=true) (h:aF F w x v):aF F w (.via x) v
 |nf (b:Nat):aF F w (.nf b) (.map (some b))
 |nk (b:Nat):aF F w (.nk b) (.pointer (some ⟨b,0,none⟩))
def ja(F:Nat→Prop)(w:World)(xs:List AV)(vs:Array Value):Prop:=xs.length=vs.size∧∀i x,xs[i]?=some x→aF F w x (vs.getD i undef)
def gk:Nat→List (Int×Int)→List MapEntry
 |_,[]=>[]
 |n,p::l=> { key:=.int .i64 p.1,val:=.int .i64 p.2,born:=n }::gk (n+1) l
def vP:AV→Option Obj
 |.nT l=>some (.map (gk 0 l).toArray l.length)
 |.rD m c s=>some (.mapIter (some m) c s.toArray c)
 |_=>none
def Fh(F:Nat→Prop)(w:World)(b:Nat)(cs:List AV):Prop:=
 ∃c T,w.heap[b]?=some (.cells c T (0,0))∧cs.length≤c.size∧∀(i:Nat) (x:AV),cs[i]?=some x→x.leaf=true∧aF F w x (c.getD i undef)
def Holds(F:Nat→Prop)(w:World)(b:Nat)(cs:List AV):Prop:=
 ¬F b∧(Fh F w b cs∨(∃x o,cs=[x]∧w.heap[b]?=some o∧vP x=some o)∨∃L t,cs=[.mu L t]∧w.heap[b]?=some (.loop L)∧∀i,aF F w (t i) (L.tmps.getD i undef))
structure bC(F:Nat→Prop)(w:World)(σ:Hp):Prop where
 nodup:(σ.map Prod.fst).Nodup
 holds:∀p∈σ,Holds F w p.1 p.2
 low:∀b,F b→b<w.heap.size
structure bL(F:Nat→Prop)(w:World)(F':Nat→Prop)(w':World):Prop where
 os:w'.os=w.os
 tape:w'.tape=w.tape
 output:w'.output=w.output
 size:w.heap.size≤w'.heap.size
 sub:∀b,F b→F' b
 fix:∀b,F b→w'.heap[b]?=w.heap[b]?
 rows:∀(b:Nat) (c:Array Value) (T:TypeId) (fz:Nat×Nat),w.heap[b]?=some (.cells c T fz)→∃(c':Array Value) (qW:Nat×Nat),w'.heap[b]?=some (.cells c' T qW)∧c'.size=c.size
 drawn:w.drawn≤w'.drawn
def Enters(P:Program)(f:FuncId):Prop:=∀(args:Array Value) (w:World),(callFunc f args).run P w=.ok (.enter f args) w
def ACalls(P:Program)(f:FuncId)(args:List AV)(σ:Hp)(R:AV→Hp→Prop):Prop:=
 Enters P f∧∀F w vs,ja F w args vs→bC F w σ→Calls P f vs w fun e w'=>∃r v σ' F',e=.returned v∧bL F w F' w'∧bC F' w' σ'∧aF F' w' r v∧R r σ'
def pull(i:Nat)(σ:Hp):Hp:=match σ[i]? with | some p=>p::σ.eraseIdx i | none=>σ
def nI:List Nat→Hp→Hp
 | [],σ=>σ
 |i::r,σ=>pull i (nI r σ)
inductive jg:Hp→Hp→Prop where
 |refl (σ:Hp):jg σ σ
 |pull (js:List Nat) {σ σ2:Hp} (h:jg (nI js σ) σ2):jg σ σ2
 |drop (k n:Nat) {σ σ2:Hp} (h:jg (σ.take k++σ.drop (k+n)) σ2):jg σ σ2
 |perm {σ ie σ2:Hp} (hp:ie.Perm σ) (h:jg ie σ2):jg σ σ2
 |adu (i b':Nat) (cs kz:List AV) {σ σ2:Hp} (hi:σ[i]?=some (b',cs)) (hl:kz.length=cs.length) (hk:∀(k:Nat) (x y:AV),cs[k]?=some x→kz[k]?=some y→x=y∨(x=.ak∧∃e:Sh,y=.af e [])) (h:jg (σ.set i (b',kz)) σ2):jg σ σ2
inductive eI(b off len es:Nat)(e:Sh)(l:List e.T):AV→AV→Prop where
 |here:eI b off len es e l (.ah b off len es) (.af e l)
 |refl (x:AV):eI b off len es e l x x
 |tup (xs ys:List AV) (h:xs.length=ys.length) (hi:∀(i:Nat) (x y:AV),xs[i]?=some x→ys[i]?=some y→eI b off len es e l x y):eI b off len es e l (.tup xs) (.tup ys)
 |agg (xs ys:List AV) (h:xs.length=ys.length) (hl:∀(i:Nat) (y:AV),ys[i]?=some y→y.leaf=true) (hi:∀(i:Nat) (x y:AV),xs[i]?=some x→ys[i]?=some y→eI b off len es e l x y):eI b off len es e l (.agg xs) (.agg ys)
 |nil (e':Sh):eI b off len es e l .ak (.af e' [])
 |gZ (e':Sh):eI b off len es e l .gZ (.af e' [])
 |via {x y:AV} (h:eI b off len es e l x y):eI b off len es e l (.via x) y
inductive CallAt(P:Program)(f:FuncId)(K:AV→Hp→Prop):List AV→Hp→Prop where
 |mk {args:List AV} {σ:Hp} (js:List Nat) (R:AV→Hp→Prop) (call:ACalls P f args (nI js σ) R) (go:∀r σ',R r σ'→K r σ'):CallAt P f K args σ
 |perm {args:List AV} {σ σ2:Hp} (R:AV→Hp→Prop) (hp:σ2.Perm σ) (call:ACalls P f args σ2 R) (go:∀r σ',R r σ'→∃ef,ef.Perm σ'∧K r ef):CallAt P f K args σ
 |cH {args args':List AV} {σ:Hp} (j b off len es:Nat) (cs:List AV) (e:Sh) (l:List e.T) (h1:σ[j]?=some (b,cs)) (h2:(cs.drop off).take (len*es)=l.flatMap e.cells) (h3:l.length=len∧e.size=es∧0<es) (h4:eI b off len es e l (.tup args) (.tup args')) (h:CallAt P f K args' (σ.eraseIdx j)):CallAt P f K args σ
 |kj {args:List AV} {σ:Hp} (j b off len es:Nat) (cs:List AV) (e:Sh) (l:List e.T) (h1:σ[j]?=some (b,cs)) (h2:(cs.drop off).take (len*es)=l.flatMap e.cells) (h3:l.length=len∧e.size=es∧0<es) (i k b':Nat) (cs':List AV) (hi:(σ.eraseIdx j)[i]?=some (b',cs')) (hk:cs'[k]?=some (.ah b off len es)) (h:CallAt P f K args ((σ.eraseIdx j).set i (b',cs'.set k (.af e l)))):CallAt P f K args σ
inductive sE(P:Program)(f:FuncId)(args:List AV)(σ:Hp)(K:AV→Prop):Prop where
 |mk (js:List Nat) (r:AV) (call:ACalls P f args (nI js σ) (fun r' σ'=>r'=r∧σ'=nI js σ)) (go:K r):sE P f args σ K
 |perm {σ2:Hp} (hp:σ2.Perm σ) (r:AV) (call:ACalls P f args σ2 (fun r' σ'=>r'=r∧σ2.Perm σ')) (go:K r):sE P f args σ K
def Fe(P:Program)(l:Nat)(args:List AV)(σ:Hp)(R:AV→Hp→Prop):Prop:=
 ∀F w vs,ja F w args vs→bC F w σ→∃f tmps assign body,(Instr.yield l vs).run P w=.ok (.round l f tmps assign body) w∧
  RoundIn Fence.wide 0 P l f tmps assign body w fun e w'=>∃r v σ' F',e=.returned v∧bL F w F' w'∧bC F' w' σ'∧aF F' w' r v∧R r σ'
inductive vE(P:Program)(l:Nat)(K:AV→Hp→Prop):List AV→Hp→Prop where
 |mk {args:List AV} {σ:Hp} (js:List Nat) (R:AV→Hp→Prop) (call:Fe P l args (nI js σ) R) (go:∀r σ',R r σ'→K r σ'):vE P l K args σ
 |perm {args:List AV} {σ σ2:Hp} (R:AV→Hp→Prop) (hp:σ2.Perm σ) (call:Fe P l args σ2 R) (go:∀r σ',R r σ'→∃ef,ef.Perm σ'∧K r ef):vE P l K args σ
section
variable (P:Program) (TT:TypeId→Option TI)
def Meth(t:TypeId)(m:String)(g:FuncId):Prop:=
 ∀(a:Addr) (w:World),(method (P.types.size+Made.depth) t (.pointer (some a)) m).run P w=.ok (g,.pointer (some a)) w
def adn(t:TypeId)(m:String)(g:FuncId):Prop:=
 ∀(a:Addr) (w:World),(method (P.types.size+Made.depth) t (.agg #[.pointer (some a)]) m).run P w=.ok (g,.pointer (some a)) w
def MethX(t:TypeId)(m:String)(x:AV)(g:FuncId)(r:AV):Prop:=match x with
 |.ptr b o=>Meth P t m g∧r=.ptr b o
 |.fY cs=>Meth P t m g∧r=.fY cs
 |.agg [.ptr b o]=>adn P t m g∧r=.ptr b o
 |_=>False
inductive InvAt(t:TypeId)(m:String)(x:AV)(K:FuncId→AV→Prop):Prop where
 |CF (g:FuncId) (r:AV) (h:MethX P t m x g r) (go:K g r):InvAt t m x K
theorem InvAt.mk{P:Program}{t:TypeId}{m:String}{b o:Nat}{K:FuncId→AV→Prop}(g:FuncId)(h:Meth P t m g)(go:K g (.ptr b o)):InvAt P t m (.ptr b o) K:=.CF g _ ⟨h,rfl⟩ go
def py(c:Call)(ρ:Operand→AV)(K:FuncId→List AV→Prop)(KY:Nat→List AV→Prop):Prop:=
 match c.callee with
 |.value f=>match ρ f with
  |.fn (.func g) first cap=>K g (first++(c.args.toList.map fun x=>bZ (ρ x))++cap)
  |.fn (.yield l) [] []=>KY l (c.args.toList.map fun x=>bZ (ρ x))
  |_=>False
 |.invoke r m=>match ρ r with
  |.iface t v=>InvAt P t m v fun g u=>K g (u::c.args.toList.map fun x=>bZ (ρ x))
  |_=>False
 |.builtin _=>False
inductive jb(σ:Hp)(es:Nat):AV→Nat→List AV→Prop where
 |ak:jb σ es .ak 0 []
 |km:jb σ es .km 0 []
 |gZ:jb σ es .gZ 0 []
 |af (s:Sh) (l:List s.T) (h:s.size=es):jb σ es (.af s l) l.length (l.flatMap s.cells)
 |ah (j b off len:Nat) (cs:List AV) (h1:σ[j]?=some (b,cs)) (h2:off+len*es≤cs.length):jb σ es (.ah b off len es) len ((cs.drop off).take (len*es))
inductive EV(i:TI)(σ:Hp)(s x:AV)(K:AV→Hp→Prop):Prop where
 |fresh (n:Nat) (new:List AV) (hs:s=.ak∨s=.km) (hx:jb σ i.size x n new) (hn:n≤1048576) (hb:i.bytes≤1024) (h0:0<i.size) (go:n≠0→∀b,K (.ah b 0 n i.size) ((b,new)::σ)) (same:n=0→K s σ)
 |more (j b len n:Nat) (cs new:List AV) (hs:s=.ah b 0 len i.size) (h1:σ[j]?=some (b,cs)) (h2:len*i.size≤cs.length) (hx:jb σ i.size x n new) (hn:len+n≤1048576) (hb:i.bytes≤1024) (h0:0<i.size)
   (go:∀b',K (.ah b' 0 (len+n) i.size) ((b',cs.take (len*i.size)++new)::σ.eraseIdx j)):EV i σ s x K
 |zi (j b off len n:Nat) (cs new:List AV) (hs:s=.ah b off len i.size) (h1:σ[j]?=some (b,cs)) (h2:off+len*i.size≤cs.length) (hx:jb σ i.size x n new) (hn:len+n≤1048576) (hb:i.bytes≤1024) (h0:0<i.size)
   (vX:K (.ah b off (len+n) i.size) ((b,cs.take (off+len*i.size)++new)::σ.eraseIdx j))
   (go:∀b',K (.ah b' 0 (len+n) i.size) ((b',(cs.drop off).take (len*i.size)++new)::σ.eraseIdx j)):EV i σ s x K
inductive AppendAt(i:TI)(σ:Hp)(s x:AV)(K:AV→Hp→Prop):Prop where
 |fresh (n:Nat) (new:List AV) (hs:s=.ak∨s=.km) (hx:jb σ i.size x n new) (hn:n≤1048576) (hb:i.bytes≤1024) (h0:0<i.size) (go:n≠0→∀b,K (.ah b 0 n i.size) ((b,new)::σ)) (same:n=0→K s σ)
 |more (j b len n:Nat) (cs new:List AV) (hs:s=.ah b 0 len i.size) (h1:σ[j]?=some (b,cs)) (h2:len*i.size≤cs.length) (hx:jb σ i.size x n new) (hn:len+n≤1048576) (hb:i.bytes≤1024) (h0:0<i.size)
   (go:∀b',K (.ah b' 0 (len+n) i.size) ((b',cs.take (len*i.size)++new)::σ.eraseIdx j)):AppendAt i σ s x K
 |zi (j b off len n:Nat) (cs new:List AV) (hs:s=.ah b off len i.size) (h1:σ[j]?=some (b,cs)) (h2:off+len*i.size≤cs.length) (hx:jb σ i.size x n new) (hn:len+n≤1048576) (hb:i.bytes≤1024) (h0:0<i.size)
   (vX:K (.ah b off (len+n) i.size) ((b,cs.take (off+len*i.size)++new)::σ.eraseIdx j))
   (go:∀b',K (.ah b' 0 (len+n) i.size) ((b',(cs.drop off).take (len*i.size)++new)::σ.eraseIdx j)):AppendAt i σ s x K
 |perm {σ2:Hp} (K2:AV→Hp→Prop) (hp:σ2.Perm σ) (h:EV i σ2 s x K2) (hk:∀v ef,K2 v ef→∃xT,xT.Perm ef∧(K v xT∨(v.leaf=true∧K (.via v) xT))):AppendAt i σ s x K
inductive Bu(i:TI)(σ:Hp)(s x:AV)(K:AV→Hp→Prop):Prop where
 |ak (k:IntKind) (n:Int) (hs:s=.ak) (hx:x=.int k n) (hn:0≤n∧n≤1048576) (hb:i.bytes≤1024) (h0:0<i.size) (go:0<n→∀b,K (.ah b 0 n.toNat i.size) ((b,cN i.zero n.toNat)::σ)) (same:n=0→K .ak σ):Bu i σ s x K
inductive QS(i:TI)(σ:Hp)(s:AV)(K:Hp→Prop):Prop where
 |none (hs:s=.ak∨s=.km∨s=.gZ) (go:K σ)
 |ah (j b off len:Nat) (cs:List AV) (hs:s=.ah b off len i.size) (h1:σ[j]?=some (b,cs)) (h2:off+len*i.size≤cs.length) (go:K (σ.set j (b,gi cs off (cN i.zero len))))
inductive Ju(i:TI)(σ:Hp)(d x:AV)(K:AV→Hp→Prop):Prop where
 |ah (j b off len n:Nat) (cs new:List AV) (hd:d=.ah b off len i.size) (h1:σ[j]?=some (b,cs)) (h2:off+len*i.size≤cs.length) (hx:jb σ i.size x n new) (hn:n≤len) (go:K (.int .i64 n) (σ.set j (b,gi cs off new)))
 |none (new:List AV) (hd:d=.ak∨d=.km∨d=.gZ) (hx:jb σ i.size x 0 new) (go:K (.int .i64 0) σ)
 |part (j b off len:Nat) (cs:List AV) (hd:d=.ah b off len i.size) (h1:σ[j]?=some (b,cs)) (h2:off+len*i.size≤cs.length) (j2 b2 mY n:Nat) (kz:List AV) (hx:x=.ah b2 mY n i.size) (h3:σ[j2]?=some (b2,kz)) (h4:mY+n*i.size≤kz.length) (hn:len≤n) (go:K (.int .i64 len) (σ.set j (b,gi cs off ((kz.drop mY).take (len*i.size)))))
def yV(t:TypeId)(m k x:AV)(σ:Hp)(K:AV→Hp→Prop):Prop:=
 match zD TT t,k,x with
 |some _,.int .i64 n,.int .i64 v=>FF σ m fun j b l=>K .any (σ.set j (b,[.nT (qE l n v)]))
 |_,_,_=>False
def EZ(t:TypeId)(m:AV)(σ:Hp)(K:AV→Hp→Prop):Prop:=
 match zD TT t with
 |some _=>FF σ m fun _ b l=>∀r,K (.nk r) ((r,[.rD b l.length []])::σ)
 |none=>False
inductive Jr(σ:Hp)(x:AV)(K:AV→Hp→Prop):Prop where
 |mk (j j2 r b:Nat) (l:List (Int×Int)) (seen:List Nat) (hx:x=.nk r) (h1:σ[j]?=some (r,[.rD b l.length seen])) (h2:σ[j2]?=some (b,[.nT l]))
   (stop:(∀i:Nat,i<l.length→i∈seen)→K (.tup [.bool false]) σ)
   (go:∀(i:Nat) (p:Int×Int),l[i]?=some p→i ∉ seen→K (.tup [.bool true,.int .i64 p.1,.int .i64 p.2]) (σ.set j (r,[.rD b l.length (seen++[i])]))):Jr σ x K
inductive I2(σ:Hp)(x:AV)(K:AV→Hp→Prop):Prop where
 |mk (j j2 r b i:Nat) (l:List (Int×Int)) (p:Int×Int) (seen:List Nat) (hx:x=.nk r) (h1:σ[j]?=some (r,[.rD b l.length (seen++[i])])) (h2:σ[j2]?=some (b,[.nT l])) (h3:l[i]?=some p)
   (go:K (.tup [.int .i64 p.1,.int .i64 p.2]) σ):I2 σ x K
def gT(o:Op)(ρ:Operand→AV)(σ:Hp)(K:AV→Hp→Prop):Prop:=
 match o with
 |.box _ x=>match (ρ x).cells? with | some cs=>∀b,K (.ptr b 0) ((b,cs)::σ) | none=>False
 |.alloc e=>match TT e with | some i=>∀b,K (.ptr b 0) ((b,i.zero)::σ) | none=>False
 |.buildSlice t len parts=>match TT t with
  |some ⟨.slice e,_,_,_⟩=>match TT e with
   |some i=>match rj ((List.range len).map fun j=>(j*i.size,i.size)) (cN i.zero len) (parts.toList.map fun p=>(p.1,ρ p.2)),Nat.ble (len*i.size) 16777216,Nat.ble 1 i.size with
    |some cs,true,true=>∀b,K (.ah b 0 len i.size) ((b,cs)::σ)
    |_,_,_=>False
   |none=>False
  |_=>False
 |.makeSlice t l c=>match TT t,ρ l,ρ c with
  |some ⟨.slice e,_,_,_⟩,.int _ n,.int _ m=>match TT e with
   |some i=>aw (0≤n∧n≤m∧m≤1048576∧i.bytes≤1024) (∀b,K (.ah b 0 n.toNat i.size) ((b,cN i.zero n.toNat)::σ))
   |none=>False
  |_,_,_=>False
 |.store t a x=>match TT t with
  |some i=>match ρ a with | .ptr b o=>EU i σ b o (ρ x) (fun σ'=>K .any σ') | _=>False
  |none=>False
 |.makeMap t none=>match zD TT t with | some _=>∀b,K (.nf b) ((b,[.nT []])::σ) | none=>False
 |.mapUpdate t m k x=>yV TT t (bZ (ρ m)) (bZ (ρ k)) (bZ (ρ x)) σ K
 |.insert t m k x=>yV TT t (bZ (ρ m)) (bZ (ρ k)) (bZ (ρ x)) σ K
 |.range t x=>EZ TT t (bZ (ρ x)) σ K
 |.next x s=>match s with | false=>Jr σ (bZ (ρ x)) K | true=>False
 |.entry x=>I2 σ (bZ (ρ x)) K
 |.call ⟨.builtin .append,args,cJ⟩=>match args.toList,cJ.toList with
  | [s,x],[t,t']=>match TT t,TT t' with
   |some ⟨.slice e,_,_,_⟩,some ⟨.slice _,_,_,_⟩=>match TT e with | some i=>AppendAt i σ (bZ (ρ s)) (bZ (ρ x)) K | none=>False
   |some ⟨.slice e,_,_,_⟩,some ⟨.int _,_,_,_⟩=>match TT e with | some i=>Bu i σ (bZ (ρ s)) (bZ (ρ x)) K | none=>False
   |_,_=>False
  |_,_=>False
 |.call ⟨.builtin .clear,args,cJ⟩=>match args.toList,cJ.toList with
  | [s],[t]=>match TT t with
   |some ⟨.slice e,_,_,_⟩=>match TT e with | some i=>QS i σ (bZ (ρ s)) (fun σ'=>K (.tup []) σ') | none=>False
   |_=>False
  |_,_=>False
 |.call ⟨.builtin .copy,args,cJ⟩=>match args.toList,cJ.toList with
  | [d,x],[t,t']=>match TT t,TT t' with
   |some ⟨.slice e,_,_,_⟩,some ⟨.slice _,_,_,_⟩=>match TT e with | some i=>Ju i σ (bZ (ρ d)) (bZ (ρ x)) K | none=>False
   |_,_=>False
  |_,_=>False
 |.call ⟨.builtin b,args,cJ⟩=>fM P TT (.call ⟨.builtin b,args,cJ⟩) ρ σ (fun v=>K v σ)
 |.call c=>py P c ρ (fun f xs=>CallAt P f K xs σ) (fun l xs=>vE P l K xs σ)
 |o=>fM P TT o ρ σ (fun v=>K v σ)
def oH(ops:List Oper)(o:Oper)(t:Tm)(A B:Prop):Prop:=
 match o.guard with
 |none=>A
 |some (j,want)=>match (ops[j]?).bind (·.dst) with
  |some d=>match t d with
   |.bool b=>(match want,b with | true,true=>A | true,false=>B | false,true=>B | false,false=>A)
   |.tup []=>B
   |_=>False
  |none=>False
def SG(ops:List Oper)(l:List Oper):Tm→Hp→(Tm→Hp→Prop)→Prop:=
 List.rec (motive:=fun _=>Tm→Hp→(Tm→Hp→Prop)→Prop) (fun t σ K=>K t σ)
  (fun o _ ih t σ K=>oH ops o t (gT P TT o.op (ev t) σ fun v σ'=>ih (put t o.dst v) σ' K) (ih (put t o.dst (.tup [])) σ K)) l
def um(o:Op)(ρ:Operand→AV)(σ:Hp)(K:AV→Prop):Prop:=
 match o with
 |.call ⟨.builtin b,args,cJ⟩=>fM P TT (.call ⟨.builtin b,args,cJ⟩) ρ σ K
 |.call c=>py P c ρ (fun f xs=>sE P f xs σ K) (fun _ _=>False)
 |o=>fM P TT o ρ σ K
def FK(ops:List Oper)(l:List Oper):Tm→Hp→(Tm→Prop)→Prop:=
 List.rec (motive:=fun _=>Tm→Hp→(Tm→Prop)→Prop) (fun t _ K=>K t)
  (fun o _ ih t σ K=>oH ops o t (um P TT o.op (ev t) σ fun v=>ih (put t o.dst v) σ K) (ih (put t o.dst (.tup [])) σ K)) l
def blind:Op→Bool
 |.move _ | .assign _ | .pick .. | .build .. | .nilCheck _ | .binOp .. | .unOp .. | .convert .. | .makeInterface .. | .makeFunc .. | .slice .. | .fieldAddr .. | .field .. | .indexAddr .. | .extract .. | .typeAssert .. => true
 |.call ⟨.builtin .len,_,_⟩ | .call ⟨.builtin .min,_,_⟩ | .call ⟨.builtin .max,_,_⟩=>true
 |_=>false
def iT(ops:List Oper)(aC:List Bool):List Nat:=
 (List.range ops.length).filter fun i=> !aC.getD i true&&(match ops[i]? with | some o=>o.after.toList.all fun e=> !Region.binds .any e||aC.getD e.on false | none=>false)
def zC(ops:List Oper)(i:Nat)(t:Tm)(σ:Hp)(K:Tm→Hp→Prop):Prop:=
 match ops[i]? with
 |some o=>oH ops o t (gT P TT o.op (ev t) σ fun v σ'=>K (put t o.dst v) σ') (K (put t o.dst (.tup [])) σ)
 |none=>False
def Kx(f:Nat→Prop)(l:List Nat):Prop:=
 List.rec (motive:=fun _=>Prop) True (fun i r ih=>match r with | []=>f i | _=>f i∧ih) l
def sr:Op→Bool
 |.load _ _=>true
 |_=>false
def nX(o:Op):Bool:= !(blind o||sr o)
def pA(o:Oper)(j:Nat):Bool:=o.after.toList.any fun e=>Region.binds .any e&&Nat.beq e.on j
def acs(ops:List Oper)(aC:List Bool)(i:Nat):Bool:=ops.zipIdx.all fun (o,j)=> !nX o.op||aC.getD j false||pA o i
def I9(ops:List Oper)(aC:List Bool)(i:Nat):Bool:=
 match ops[i]? with
 |some o=>blind o.op||(sr o.op&&acs ops aC i)
 |none=>false
def uf(ops:List Oper)(n:Nat):List Bool→Tm→Hp→(Tm→Hp→Prop)→Prop:=
 Nat.rec (motive:=fun _=>List Bool→Tm→Hp→(Tm→Hp→Prop)→Prop) (fun _ _ _ _=>False)
  (fun _ ih aC t σ K=>match iT ops aC with
   | []=>K t σ
   |i::r=>match (i::r).find? (I9 ops aC) with
    |some j=>zC P TT ops j t σ fun t' σ'=>ih (aC.set j true) t' σ' K
    |none=>Kx (fun j=>zC P TT ops j t σ fun t' σ'=>ih (aC.set j true) t' σ' K) (i::r)) n
theorem OG{ops:List Oper}{n:Nat}{aC:List Bool}{t:Tm}{σ:Hp}{K:Tm→Hp→Prop}:uf P TT ops (n+1) aC t σ K=(match iT ops aC with
   | []=>K t σ
   |i::r=>match (i::r).find? (I9 ops aC) with
    |some j=>zC P TT ops j t σ fun t' σ'=>uf P TT ops n (aC.set j true) t' σ' K
    |none=>Kx (fun j=>zC P TT ops j t σ fun t' σ'=>uf P TT ops n (aC.set j true) t' σ' K) (i::r)):=rfl
def xv(ops:List Oper)(o:Oper):List Tmp:=
 (o.op.operands.toList.filterMap fun | .tmp t=>some t | _=>none)++(match o.guard with | some (g,_)=>((ops[g]?).bind (·.dst)).toList | none=>[])
def ED(ops:List Oper):Bool:=
 let z:=ops.zipIdx
 z.all fun (o,i)=>
  (o.after.toList.all fun e=> !Region.binds .any e||Nat.blt e.on i) &&
  (z.all fun (p,j)=>match p.dst with
   |none=>true
   |some d=>(Nat.beq i j||match o.dst with | some d'=> !Nat.beq d d' | none=>true) &&
    (!(xv ops o).any (Nat.beq d)||Nat.beq i j||(Nat.blt j i&&pA o j)||(Nat.blt i j&&pA p i)))
def rb(ops:List Oper):Bool:=
 let z:=ops.zipIdx
 z.all fun (o,i)=>(match o.op with | .select .. => false | _=>true)&&z.all fun (p,j)=>Nat.beq i j||pA o j||pA p i||o.apart ops.toArray p
def mC(g:Tm):List (Nat×AV)→Tm
 | []=>g
 |(i,v)::r=>fun j=>match Nat.beq j i with | true=>v | false=>mC g r j
def agree(t:Tm):List (Nat×AV)→Prop
 | []=>True
 |(i,v)::r=>t i=v∧agree t r
theorem yI{t:Tm}{l:List (Nat×AV)}(h:agree t l):t=mC t l:=by
 induction l with
 |nil=>rfl
 |cons p r ih=>
  obtain⟨i,v⟩:=p
  obtain⟨h1,h2⟩:=h
  funext j
  show t j=(match Nat.beq j i with | true=>v | false=>mC t r j)
  cases hb:Nat.beq j i with
  |true=>rw[jF hb];exact h1
  |false=>exact congrFun (ih h2) j
inductive cX{S:Type}(L:S→List (Nat×AV))(H:S→Hp)(t':Tm)(σ':Hp):Prop where
 |mk (s:S) (h3:agree t' (L s)) (h4:jg σ' (H s)):cX L H t' σ'
def jR(ops:List Oper)(q:Bool)(i:Nat)(t:Tm)(σ:Hp)(K:Tm→Hp→Prop):Prop:=
 match ops[i]? with
 |some o=>match q with
  |true=>oH ops o t (um P TT o.op (ev t) σ fun v=>K (put t o.dst v) σ) (K (put t o.dst (.tup [])) σ)
  |false=>oH ops o t (gT P TT o.op (ev t) σ fun v σ'=>K (put t o.dst v) σ') (K (put t o.dst (.tup [])) σ)
 |none=>False
def eX(j:Nat)(l:List Nat):Bool:=l.any (Nat.beq j)
def pL(ops:List Oper)(Q:List Nat)(n:Nat):List Bool→Tm→Hp→(Tm→Hp→Prop)→Prop:=
 Nat.rec (motive:=fun _=>List Bool→Tm→Hp→(Tm→Hp→Prop)→Prop) (fun _ _ _ _=>False)
  (fun _ ih aC t σ K=>(iT ops aC=[]→K t σ)∧∀i∈iT ops aC,jR P TT ops (eX i Q) i t σ fun t' σ'=>ih (aC.set i true) t' σ' K) n
def JZ(o:Oper)(acc:List (List Nat)):List Nat:=o.after.toList.flatMap fun e=>match Region.binds .any e with | true=>e.on::(acc[e.on]?).getD [] | false=>[]
def Jv:List Oper→List (List Nat)→List (List Nat)
 | [],acc=>acc
 |o::os,acc=>Jv os (acc++[(JZ o acc).eraseDups])
def uc(ops:List Oper)(Q:List Nat)(k:Nat):Bool:=match ops[k]? with | some o=>nX o.op&&!eX k Q | none=>false
def Fl:Op→Bool
 |.alloc _ | .box _ _=>true
 |_=>false
def B7(ops:List Oper)(k:Nat):Bool:=match ops[k]? with | some o=>Fl o.op | none=>false
def za(ops:List Oper)(rows:List (List Nat))(Q:List Nat)(aC:List Bool)(j:Nat):Bool:=
 match ops[j]? with
 |some o=>(blind o.op&&!eX j Q)||((sr o.op||eX j Q)&&(List.range ops.length).all fun k=>aC.getD k false||!uc ops Q k||eX j ((rows[k]?).getD [])||(sr o.op&&!eX j Q&&B7 ops k))
 |none=>false
inductive pg where
 |stop
 |one (j:Nat) (q:Bool) (s:pg)
 |alt (j:Nat) (s r:pg)
 |Ct (j:Nat) (s r:pg)
def lf(ops:List Oper)(rows:List (List Nat))(Q:List Nat):pg→Nat→List Nat→List Bool→Bool
 |.stop,n,mX,aC=>match n,mX,iT ops aC with | _+1,[],[]=>true | _,_,_=>false
 |.one j q s,n,mX,aC=>match n,mX with
  |n+1,[]=>(eX j Q == q)&&eX j (iT ops aC)&&(za ops rows Q aC j||(match iT ops aC with | [i]=>Nat.beq i j | _=>false))&&lf ops rows Q s n [] (aC.set j true)
  |n,[i]=>(eX j Q == q)&&Nat.beq i j&&lf ops rows Q s n [] (aC.set j true)
  |_,_=>false
 |.alt j s r,n,mX,aC=>match n,mX with
  |n+1,[]=>(match iT ops aC with
   |i::i2::l=>Nat.beq i j&&!eX j Q&&lf ops rows Q s n [] (aC.set j true)&&lf ops rows Q r n (i2::l) aC
   |_=>false)
  |n,i::i2::l=>Nat.beq i j&&!eX j Q&&lf ops rows Q s n [] (aC.set j true)&&lf ops rows Q r n (i2::l) aC
  |_,_=>false
 |.Ct j s r,n,mX,aC=>match n,mX with
  |n+1,[]=>(match iT ops aC with
   |i::i2::l=>Nat.beq i j&&eX j Q&&lf ops rows Q s n [] (aC.set j true)&&lf ops rows Q r n (i2::l) aC
   |_=>false)
  |n,i::i2::l=>Nat.beq i j&&eX j Q&&lf ops rows Q s n [] (aC.set j true)&&lf ops rows Q r n (i2::l) aC
  |_,_=>false
def tU(ops:List Oper)(s:pg):Tm→Hp→(Tm→Hp→Prop)→Prop:=
 pg.rec (motive:=fun _=>Tm→Hp→(Tm→Hp→Prop)→Prop) (fun t σ K=>K t σ)
  (fun j q _ ih t σ K=>jR P TT ops q j t σ fun t' σ'=>ih t' σ' K)
  (fun j _ _ ih jS t σ K=>jR P TT ops false j t σ (fun t' σ'=>ih t' σ' K)∧jS t σ K)
  (fun j _ _ ih jS t σ K=>jR P TT ops true j t σ (fun t' σ'=>ih t' σ' K)∧jS t σ K) s
def acW:Op→Bool
 |.call ⟨.builtin _,_,_⟩=>false
 |.call _=>true
 |_=>false
def E0(ops:List Oper)(Q:List Nat)(s:pg):Bool:=
 rb ops&&Q.all (fun j=>match ops[j]? with | some o=>acW o.op | none=>false)&&lf ops (Jv ops []) Q s (ops.length+1) [] (List.replicate ops.length false)
inductive fX(ops:List Oper)(K:Tm→Hp→Prop):Tm→Hp→Prop where
 |quiet {t:Tm} {σ:Hp} (h0:ED ops=true) (h:FK P TT ops ops t σ fun t'=>K t' σ):fX ops K t σ
 |each {t:Tm} {σ:Hp} (h0:rb ops=true) (h:uf P TT ops (ops.length+1) (List.replicate ops.length false) t σ K):fX ops K t σ
 |sched {t:Tm} {σ:Hp} (Q:List Nat) (s:pg) (h0:E0 ops Q s=true) (h:tU P TT ops s t σ K):fX ops K t σ
 |meet {t:Tm} {σ:Hp} {S:Type} (L:S→List (Nat×AV)) (H:S→Hp) (h0:rb ops=true) (h:uf P TT ops (ops.length+1) (List.replicate ops.length false) t σ (cX L H)) (go:∀s g,K (mC g (L s)) (H s)):fX ops K t σ
 |BK {t:Tm} {σ:Hp} {S:Type} (Q:List Nat) (s:pg) (L:S→List (Nat×AV)) (H:S→Hp) (h0:E0 ops Q s=true) (h:tU P TT ops s t σ (cX L H)) (go:∀s g,K (mC g (L s)) (H s)):fX ops K t σ
 |cH {t t':Tm} {σ:Hp} (j b off len es:Nat) (cs:List AV) (e:Sh) (l:List e.T) (h1:σ[j]?=some (b,cs)) (h2:(cs.drop off).take (len*es)=l.flatMap e.cells) (h3:l.length=len∧e.size=es∧0<es) (h4:∀i,eI b off len es e l (t i) (t' i)) (h:fX ops K t' (σ.eraseIdx j)):fX ops K t σ
 |dL {t:Tm} {σ σ2:Hp} (h1:jg σ σ2) (h:fX ops K t σ2):fX ops K t σ
inductive Ex where
 |normal | exit (id:Nat) | goto (l:Nat) | ret
def Head{S:Type}(L:S→List (Nat×AV))(H:S→Hp)(p:S→Prop)(μ:S→Nat)(m:Nat)(t:Tm)(σ:Hp):Prop:=∃s g,m=μ s∧p s∧t=mC g (L s)∧σ=H s
inductive oP{S:Type}(L:S→List (Nat×AV))(H:S→Hp)(p:S→Prop)(μ:S→Nat)(s:S):Tm→Hp→Prop where
 |mk {t':Tm} {σ':Hp} (s':S) (h1:μ s'<μ s) (h2:p s') (h3:agree t' (L s')) (h4:jg σ' (H s')):oP L H p μ s t' σ'
 |cH {t' t2:Tm} {σ':Hp} (j b off len es:Nat) (cs:List AV) (e:Sh) (l:List e.T) (h1:σ'[j]?=some (b,cs)) (h2:(cs.drop off).take (len*es)=l.flatMap e.cells) (h3:l.length=len∧e.size=es∧0<es) (h4:∀i,eI b off len es e l (t' i) (t2 i)) (h:oP L H p μ s t2 (σ'.eraseIdx j)):oP L H p μ s t' σ'
 |kj {t':Tm} {σ':Hp} (j b off len es:Nat) (cs:List AV) (e:Sh) (l:List e.T) (h1:σ'[j]?=some (b,cs)) (h2:(cs.drop off).take (len*es)=l.flatMap e.cells) (h3:l.length=len∧e.size=es∧0<es) (i k b':Nat) (cs':List AV) (hi:(σ'.eraseIdx j)[i]?=some (b',cs')) (hk:cs'[k]?=some (.ah b off len es)) (h:oP L H p μ s t' ((σ'.eraseIdx j).set i (b',cs'.set k (.af e l)))):oP L H p μ s t' σ'
 |dL {t':Tm} {σ' σ2:Hp} (h1:jg σ' σ2) (h:oP L H p μ s t' σ2):oP L H p μ s t' σ'
 |nil {t' t2:Tm} {σ':Hp} (h4:∀i,eI 0 0 0 0 .bool [] (t' i) (t2 i)) (h:oP L H p μ s t2 σ'):oP L H p μ s t' σ'
inductive my(body:Tm→Hp→(Ex→Tm→Hp→Prop)→Prop)(Q:Ex→Tm→Hp→Prop):Tm→Hp→Prop where
 |mk {t:Tm} {σ:Hp} {S:Type} (L:S→List (Nat×AV)) (H:S→Hp) (p:S→Prop) (μ:S→Nat) (s0:S) (h0:p s0∧agree t (L s0)∧σ=H s0)
   (round:∀s g,p s→body (mC g (L s)) (H s) (fun e t' σ'=>match e with | .normal=>oP L H p μ s t' σ' | e=>Q e t' σ')):my body Q t σ
 |cH {t t':Tm} {σ:Hp} (j b off len es:Nat) (cs:List AV) (e:Sh) (l:List e.T) (h1:σ[j]?=some (b,cs)) (h2:(cs.drop off).take (len*es)=l.flatMap e.cells) (h3:l.length=len∧e.size=es∧0<es) (h4:∀i,eI b off len es e l (t i) (t' i)) (h:my body Q t' (σ.eraseIdx j)):my body Q t σ
 |dL {t:Tm} {σ σ2:Hp} (h1:jg σ σ2) (h:my body Q t σ2):my body Q t σ
 |wrap {t:Tm} {σ:Hp} (k:Nat) (v:AV) (h1:t k=v) (h2:v.leaf=true) (h:my body Q (mC t [(k,.via v)]) σ):my body Q t σ
 |nil {t t':Tm} {σ:Hp} (h4:∀i,eI 0 0 0 0 .bool [] (t i) (t' i)) (h:my body Q t' σ):my body Q t σ
def Sk(R:Nat→Tm→Hp→(Ex→Tm→Hp→Prop)→Prop)(k:Nat):Nat→Tm→Hp→(Ex→Tm→Hp→Prop)→Prop:=
 Nat.rec (motive:=fun _=>Nat→Tm→Hp→(Ex→Tm→Hp→Prop)→Prop) (fun _ _ _ _=>False)
  (fun _ ih l t σ Q=>R l t σ fun e t' σ'=>match e with | .goto l'=>ih l' t' σ' Q | e=>Q e t' σ') k
inductive qB{S:Type}(ga:S→Nat)(L:S→List (Nat×AV))(H:S→Hp)(p:S→Prop)(μ:S→Nat)(s:S)(l:Nat):Tm→Hp→Prop where
 |mk {t':Tm} {σ':Hp} (s':S) (h0:l=ga s') (h1:μ s'<μ s) (h2:p s') (h3:agree t' (L s')) (h4:jg σ' (H s')):qB ga L H p μ s l t' σ'
 |cH {t' t2:Tm} {σ':Hp} (j b off len es:Nat) (cs:List AV) (e:Sh) (d:List e.T) (h1:σ'[j]?=some (b,cs)) (h2:(cs.drop off).take (len*es)=d.flatMap e.cells) (h3:d.length=len∧e.size=es∧0<es) (h4:∀i,eI b off len es e d (t' i) (t2 i)) (h:qB ga L H p μ s l t2 (σ'.eraseIdx j)):qB ga L H p μ s l t' σ'
 |kj {t':Tm} {σ':Hp} (j b off len es:Nat) (cs:List AV) (e:Sh) (d:List e.T) (h1:σ'[j]?=some (b,cs)) (h2:(cs.drop off).take (len*es)=d.flatMap e.cells) (h3:d.length=len∧e.size=es∧0<es) (i k b':Nat) (cs':List AV) (hi:(σ'.eraseIdx j)[i]?=some (b',cs')) (hk:cs'[k]?=some (.ah b off len es)) (h:qB ga L H p μ s l t' ((σ'.eraseIdx j).set i (b',cs'.set k (.af e d)))):qB ga L H p μ s l t' σ'
 |dL {t':Tm} {σ' σ2:Hp} (h1:jg σ' σ2) (h:qB ga L H p μ s l t' σ2):qB ga L H p μ s l t' σ'
 |nil {t' t2:Tm} {σ':Hp} (h4:∀i,eI 0 0 0 0 .bool [] (t' i) (t2 i)) (h:qB ga L H p μ s l t2 σ'):qB ga L H p μ s l t' σ'
inductive qC(R:Nat→Tm→Hp→(Ex→Tm→Hp→Prop)→Prop)(l:Nat)(Q:Ex→Tm→Hp→Prop):Tm→Hp→Prop where
 |fwd {t:Tm} {σ:Hp} (k:Nat) (h:Sk R k l t σ Q):qC R l Q t σ
 |loop {t:Tm} {σ:Hp} {S:Type} (ga:S→Nat) (L:S→List (Nat×AV)) (H:S→Hp) (p:S→Prop) (μ:S→Nat) (s0:S) (h0:l=ga s0∧p s0∧agree t (L s0)∧jg σ (H s0))
   (round:∀s g,p s→R (ga s) (mC g (L s)) (H s) (fun e t' σ'=>match e with | .goto l'=>qB ga L H p μ s l' t' σ' | e=>Q e t' σ')):qC R l Q t σ
 |cH {t t':Tm} {σ:Hp} (j b off len es:Nat) (cs:List AV) (e:Sh) (d:List e.T) (h1:σ[j]?=some (b,cs)) (h2:(cs.drop off).take (len*es)=d.flatMap e.cells) (h3:d.length=len∧e.size=es∧0<es) (h4:∀i,eI b off len es e d (t i) (t' i)) (h:qC R l Q t' (σ.eraseIdx j)):qC R l Q t σ
 |dL {t:Tm} {σ σ2:Hp} (h1:jg σ σ2) (h:qC R l Q t σ2):qC R l Q t σ
 |wrap {t:Tm} {σ:Hp} (k:Nat) (v:AV) (h1:t k=v) (h2:v.leaf=true) (h:qC R l Q (mC t [(k,.via v)]) σ):qC R l Q t σ
def JS(l:Nat)(rd:AV)(dn:Ex→AV)(R1:Ex→Hp→Prop)(r:AV)(σ':Hp):Prop:=
 (r=.bool true∧∃σ2,σ'=(l,[rd])::σ2∧R1 .normal σ2)∨(r=.bool false∧∃e σ2,e≠.normal∧σ'=(l,[dn e])::σ2∧R1 e σ2)
def acq(l:Nat)(rd:AV)(dn:Ex→AV)(K:Ex→Hp→Prop)(_:AV)(σ':Hp):Prop:=
 (∃σ2,σ'=(l,[rd])::σ2∧K .normal σ2)∨(∃e σ2,e≠.normal∧σ'=(l,[dn e])::σ2∧K e σ2)
inductive zf(P:Program)(gf:FuncId)(cap:List AV)(m:Nat)(B:List AV→Hp→(Ex→Hp→Prop)→Prop)(K:Ex→Hp→Prop):Hp→Prop where
 |mk {σ:Hp} (go:∀(l:Nat) (rd:AV) (dn:Ex→AV),(∀(xs:List AV) (ie:Hp) (R1:Ex→Hp→Prop),xs.length=m→B xs ie R1→Fe P l xs ((l,[rd])::ie) (JS l rd dn R1))→
   ACalls P gf (.fn (.yield l) [] []::cap) ((l,[rd])::σ) (acq l rd dn K)):zf P gf cap m B K σ
 |dL {σ σ2:Hp} (h1:jg σ σ2) (h:zf P gf cap m B K σ2):zf P gf cap m B K σ
def zP:List Tmp→List AV→Tm→Tm
 |p::ps,x::xs,t=>zP ps xs (put t (some p) x)
 |_,_,t=>t
def codeF(rec:Code→Tm→Hp→(Ex→Tm→Hp→Prop)→Prop)(c:Code)(t:Tm)(σ:Hp)(Q:Ex→Tm→Hp→Prop):Prop:=
 match c with
 |.skip=>Q .normal t σ
 |.label _=>Q .normal t σ
 |.exit id=>Q (.exit id) t σ
 |.goto l=>Q (.goto l) t σ
 |.ret=>Q .ret t σ
 |.region _ ops draw=>match draw with
  |false=>SG P TT ops.toList ops.toList t σ (Q .normal)
  |true=>fX P TT ops.toList (Q .normal) t σ
 |.seq a b=>rec a t σ fun e t' σ'=>match e with | .normal=>rec b t' σ' Q | e=>Q e t' σ'
 |.cond c a b=>match ev t c with | .bool x=>(match x with | true=>rec a t σ Q | false=>rec b t σ Q) | _=>False
 |.block id c=>rec c t σ fun e t' σ'=>match e with
  |.exit i=>(match Nat.beq i id with | true=>Q .normal t' σ' | false=>Q (.exit i) t' σ')
  |e=>Q e t' σ'
 |.loop c=>my (fun t σ Q=>rec c t σ Q) Q t σ
 |.scope c=>rec c t σ fun e t' σ'=>match e with
  |.goto l=>qC (fun l t σ Q=>match findLabel c l with | some r=>rec r t σ Q | none=>False) l Q t' σ'
  |e=>Q e t' σ'
 |.rangeFunc g ps assign body=>match ev t g with
  |.fn (.func gf) [] cap=>zf P gf cap ps.size (fun xs ie R1=>rec assign (zP ps.toList xs t) ie fun e t' σ'=>match e with | .normal=>rec body t' σ' (fun e _ kh=>R1 e kh) | _=>False) (fun e σ'=>Q e t σ') σ
  |_=>False
 |_=>False
def mw(n:Nat):Code→Tm→Hp→(Ex→Tm→Hp→Prop)→Prop:=
 Nat.rec (motive:=fun _=>Code→Tm→Hp→(Ex→Tm→Hp→Prop)→Prop) (fun _ _ _ _=>False) (fun _ ih=>codeF P TT ih) n
end
def sG:List (Int×Int)→Int→Nat
 | [],_=>0
 |p::l,n=>if p.1=n then 0 else sG l n+1
theorem Ip:∀(l:List (Int×Int)) (m i:Nat),(gk m l)[i]?=(l[i]?).map fun p=> { key:=.int .i64 p.1,val:=.int .i64 p.2,born:=m+i }
 | [],_,_=>by simp[gk]
 |p::l,m,0=>by simp[gk]
 |p::l,m,i+1=>by
  simp only[gk,List.getElem?_cons_succ]
  rw[Ip l (m+1) i]
  simp[Nat.add_assoc,Nat.add_comm 1 i]
theorem Hn(n:Int):∀(l:List (Int×Int)) (m i:Nat),Instr.findNow (.int .i64) (.int .i64 n) (gk m l) i=some ((getM l n).map fun v=>(i+sG l n,.int .i64 v))
 | [],_,_=>rfl
 |p::l,m,i=>by
  have ih:=Hn n l (m+1) (i+1)
  unfold gk Instr.findNow
  simp only[Instr.sameNow,if_true]
  by_cases h:p.1=n
  ·rw[show (n == p.1)=true by simp[h]]
   simp[getM,sG,h]
  ·rw[show (n == p.1)=false by simp;exact fun e=>h e.symm]
   simp only[ih,getM,sG,aA h]
   congr 1
   cases getM l n with
   |none=>rfl
   |some v=>simp[Nat.add_assoc,Nat.add_comm 1]
theorem pos_at:∀(l:List (Int×Int)) (n v:Int),getM l n=some v→l[sG l n]?=some (n,v)∧∀x,qE l n x=l.set (sG l n) (n,x)
 | [],_,_,h=>by cases h
 |p::l,n,v,h=>by
  by_cases hp:p.1=n
  ·simp only[getM,az hp,Option.some.injEq]at h
   simp only[sG,az hp,qE]
   refine⟨?_,fun x=>rfl⟩
   rw[← hp,← h];rfl
  ·simp only[getM,aA hp]at h
   obtain⟨h1,h2⟩:=pos_at l n v h
   simp only[sG,aA hp,qE]
   exact⟨h1,fun x=>by rw[h2];rfl⟩
theorem Qf:∀(l:List (Int×Int)) (n x:Int),getM l n=none→qE l n x=l++[(n,x)]
 | [],_,_,_=>rfl
 |p::l,n,x,h=>by
  by_cases hp:p.1=n
  ·simp only[getM,az hp]at h;cases h
  ·simp only[getM,aA hp]at h
   simp only[qE,aA hp,Qf l n x h];rfl
theorem Og:∀(l:List (Int×Int)) (m:Nat) (p:Int×Int),gk m (l++[p])=gk m l++[{ key:=.int .i64 p.1,val:=.int .i64 p.2,born:=m+l.length }]
 | [],_,_=>rfl
 |q::l,m,p=>by
  simp only[go2,gk,Og l (m+1) p,iE]
  rw[show m+1+l.length=m+(l.length+1) by omega]
theorem Ps:∀(l:List (Int×Int)) (m i:Nat) (p:Int×Int),gk m (l.set i p)=(gk m l).modify i fun e=> { e with key:=.int .i64 p.1,val:=.int .i64 p.2 }
 | [],_,_,_=>by simp[gk]
 |q::l,m,0,p=>by simp[gk]
 |q::l,m,i+1,p=>by simp[gk,Ps l (m+1) i p]
section
variable {P:Program} {w:World} {t k e:TypeId} {b:Nat} {l:List (Int×Int)}
theorem Ue(ht:P.underlying t=some (.map k e))(hk:P.underlying k=some (.int .i64)){z:Int}(hz:(zeroValue e).run P w=.ok (.int .i64 z) w)(hb:w.heap[b]?=some (.map (gk 0 l).toArray l.length))(n:Int)(c:Bool):
  (Instr.lookup t (.map (some b)) (.int .i64 n) c).run P w=.ok (if c then .tuple #[.int .i64 ((getM l n).getD z),.bool (getM l n).isSome] else .int .i64 ((getM l n).getD z)) w:=by
 have hf:=Hn n l 0 0
 have zF:MapKept.IsKey (.int .i64) (.int .i64 n):=by simp[MapKept.IsKey]
 cases h:getM l n with
 |none=>
  rw[h]at hf
  simp[Instr.lookup,run_underlying ht,MapKept.run_getObj_map hb,MapKept.run_checkKey hk zF,MapKept.run_findKey hk hf,hz,Result.andThen]
 |some v=>
  rw[h]at hf
  simp[Instr.lookup,run_underlying ht,MapKept.run_getObj_map hb,MapKept.run_checkKey hk zF,MapKept.run_findKey hk hf,Result.andThen]
theorem Ud(ht:P.underlying t=some (.map k e))(hk:P.underlying k=some (.int .i64))(hb:w.heap[b]?=some (.map (gk 0 l).toArray l.length))(n x:Int):
  (Instr.mapUpdate t (.map (some b)) (.int .i64 n) (.int .i64 x)).run P w=.ok () { w with heap:=w.heap.setIfInBounds b (.map (gk 0 (qE l n x)).toArray (qE l n x).length) }:=by
 have hf:=Hn n l 0 0
 have zF:MapKept.IsKey (.int .i64) (.int .i64 n):=by simp[MapKept.IsKey]
 cases h:getM l n with
 |none=>
  rw[h]at hf
  rw[Qf l n x h,Og]
  simp[Instr.mapUpdate,run_underlying ht,MapKept.run_getObj_map hb,MapKept.run_checkKey hk zF,MapKept.run_findKey hk hf,MapKept.run_setObj_map _ hb,Result.andThen]
 |some v=>
  rw[h]at hf
  obtain⟨h1,h2⟩:=pos_at l n v h
  rw[h2,Ps]
  have hg:(gk 0 l)[sG l n]?=some { key:=.int .i64 n,val:=.int .i64 v,born:=0+sG l n }:=by rw[Ip,h1];rfl
  simp[Instr.mapUpdate,run_underlying ht,MapKept.run_getObj_map hb,MapKept.run_checkKey hk zF,MapKept.run_findKey hk hf,hg,MapKept.run_keyThatStays zF,MapKept.run_setObj_map _ hb,Result.andThen]
end
end Go.Proofs.YtnikdflhefijbaaGreat
