import Derived.Below
import Derived.BigQuiet
import Derived.Carry
import Derived.ChangeOld
import Derived.Deep.OwnRows
import Derived.Deep.QuietTactic
import Derived.Deep.Slices
import Derived.Handy
import Derived.Maps.AppendAt
import Derived.OpenShut
import Derived.ProofKit
import Derived.ShutString
import Derived.Stop.IfaceNil
import Derived.Test.YtnikdflhefijbaaGreatRows
import Derived.WalkKit
import Derived.WalkLawsBesides
import Derived.WalkSpells
namespace Go.Proofs.YtnikdflhefijbaaGreat
open Go.RowKit
abbrev bg:= @List.getD_eq_getElem?_getD
abbrev bF:= @List.getElem?_eq_getElem
abbrev cg:= @List.getElem?_eq_some_iff
abbrev bB:= @List.mem_singleton
abbrev bP:= @List.length_append
abbrev cq:= @List.mem_of_getElem?
abbrev ag:= @if_neg
abbrev ah:= @if_pos
abbrev bM:= @Int.toNat_natCast
abbrev cD:= @Nat.le_of_ble_eq_true
abbrev bu:= @decide_eq_true
abbrev fL:= @List.take_succ_eq_append_getElem
abbrev bR:= @Bool.and_eq_true
abbrev ck:= @List.mem_cons_self
abbrev bV:= @List.mem_append
abbrev bZ:= @decide_eq_false
abbrev eG:= @List.take_of_length_le
abbrev cW:= @List.mem_cons_of_mem
abbrev cj:= @List.getElem_mem
abbrev a8:= @Nat.le_refl
abbrev cm:= @List.length_map
abbrev bD:= @Nat.zero_le
abbrev cO:= @List.map_append
abbrev cN:= @List.length_set
abbrev jv:= @List.length_eq_zero_iff
abbrev dQ:= @List.append_assoc
abbrev jL:= @Array.getD_eq_getD_getElem?
abbrev iX:= @List.getElem?_append_right
abbrev fZ:= @List.length_replicate
abbrev e8:= @List.getElem?_set
abbrev fo:= @List.getElem?_map
abbrev gN:= @List.mem_append_left
abbrev jY:= @List.getElem?_append_left
abbrev fA:= @of_decide_eq_true
abbrev fy:= @List.all_eq_true
abbrev jK:= @Nat.eq_of_beq_eq_true
abbrev dP:= @List.mem_map
abbrev eF:= @List.mem_cons
abbrev ef:= @Nat.zero_add
abbrev jJ:= @List.mem_append_right
abbrev gn:= @List.take_length
abbrev gM:= @List.drop_zero
abbrev dO:= @Nat.mul_one
abbrev gm:= @List.mem_range
abbrev lZ:= @Int.toNat_of_nonneg
abbrev fx:= @Nat.le_trans
abbrev iy:= @List.length_cons
abbrev mu:= @Int.eq_ofNat_of_zero_le
abbrev lY:= @Nat.mul_le_mul_right
abbrev lX:= @Bool.false_eq_true
abbrev lB:= @Bool.not_eq_true'
abbrev qH:= @List.mem_or_eq_of_mem_set
abbrev mW:= @List.length_pos_iff
abbrev oU:= @List.nodup_append
abbrev sK:= @Int.tmod_eq_emod_of_nonneg
abbrev qG:= @List.mem_iff_getElem?
abbrev mV:= @List.any_eq_true
abbrev mr:= @List.nodup_cons
abbrev mU:= @List.append_nil
abbrev vU:= @List.getElem?_replicate
abbrev sJ:= @List.length_singleton
abbrev tZ:= @List.getElem?_eq_none
abbrev pO:= @of_decide_eq_false
abbrev nS:= @List.perm_middle
abbrev nR:= @Nat.not_lt_zero
abbrev nQ:= @List.mem_filter
abbrev oT:= @List.mem_flatten
abbrev pN:= @List.length_range
abbrev qF:= @List.getElem?_take
abbrev qE:= @List.size_toArray
abbrev kq:= @Int.le_refl
abbrev rH:= @Nat.lt_of_lt_of_le
abbrev oS:= @List.map_set
abbrev Fa:= @List.length_filter_le
abbrev sI:= @List.length_reverse
abbrev vT:= @List.flatMap_append
abbrev sH:= @List.range_succ
abbrev xK:= @Array.getElem?_eq_getElem
abbrev tY:= @Nat.pow_le_pow_right
abbrev vS:= @Nat.testBit_lt_two_pow
abbrev tX:= @List.getElem?_range
abbrev qD:= @Bool.or_eq_true
abbrev oR:= @List.map_cons
abbrev zw:= @List.length_eraseIdx_of_lt
abbrev tW:= @Nat.eq_zero_or_pos
abbrev xJ:= @Option.map_eq_some_iff
abbrev BL:= @List.ext_getElem
abbrev pM:= @Bool.false_or
abbrev vR:= @List.map_congr_left
abbrev pL:= @Nat.sub_self
abbrev zu:= @List.getElem?_toArray
abbrev tV:= @List.foldl_append
abbrev BK:= @List.eq_of_mem_replicate
abbrev mT:= @Nat.mod_lt
abbrev xI:= @List.mem_iff_getElem
abbrev qC:= @Nat.succ_mul
abbrev tU:= @Nat.mod_eq_of_lt
abbrev BJ:= @Int.tdiv_eq_ediv_of_nonneg
abbrev E9:= @List.length_pos_of_mem
abbrev BI:= @Array.toList_append
abbrev Oz:= @Nat.ble_eq_true_of_le
abbrev tT:= @Int.natCast_add
abbrev zt:= @List.getElem?_drop
abbrev sG:= @Nat.pow_zero
abbrev tS:= @Nat.mul_le_mul
abbrev zr:= @List.flatMap_cons
abbrev qB:= @Nat.add_mul
abbrev vQ:= @List.nil_append
abbrev E8:= @Array.getElem?_eq_some_iff
abbrev Oy:= @Array.getElem?_append_left
abbrev xH:= @List.mem_reverse
abbrev zq:= @List.length_take
abbrev BH:= @List.filter_cons
abbrev zp:= @Nat.lt_of_le_of_lt
abbrev E7:= @List.take_append_drop
abbrev JC:= @List.set_append_right
abbrev BG:= @List.filter_append
abbrev BF:= @Array.getElem?_toList
abbrev rG:= @Nat.pow_add
abbrev BE:= @Nat.eq_of_testBit_eq
abbrev zo:= @List.ext_getElem?
abbrev JB:= @Array.getElem?_setIfInBounds_ne
abbrev JA:= @List.eq_nil_iff_forall_not_mem
abbrev Ox:= @List.replicate_succ
abbrev gm4:= @List.flatten_append
abbrev Jz:= @List.take_append_of_le_length
abbrev Jy:= @List.getElem_replicate
abbrev E6:= @Array.size_eq_zero_iff
abbrev BD:= @Nat.lt_or_eq_of_le
abbrev BC:= @List.pairwise_cons
abbrev BB:= @Bool.false_ne_true
abbrev Jx:= @Nat.testBit_two_pow_sub_one
abbrev vP:= @Nat.lt_or_ge
abbrev vO:= @Nat.add_zero
abbrev E5:= @List.eq_nil_or_concat
abbrev E4:= @Nat.add_assoc
abbrev BA:= @List.pairwise_map
abbrev Bz:= @List.flatten_cons
abbrev By:= @List.any_eq_false
abbrev E3:= @List.getElem?_of_mem
abbrev Jw:= @List.drop_eq_getElem_cons
abbrev Bx:= @List.not_mem_nil
abbrev go2:= @Array.length_toList
abbrev xG:= @Nat.zero_mul
abbrev xF:= @Nat.beq_refl
abbrev Bw:= @Nat.two_pow_pos
abbrev Jv:= @Nat.testBit_mod_two_pow
abbrev Ju:= @Nat.add_sub_cancel_left
abbrev Bv:= @List.all_append
abbrev zn:= @Bool.true_and
abbrev Jt:= @List.drop_of_length_le
abbrev E2:= @Nat.le_of_lt_succ
abbrev E1:= @Bool.eq_false_iff
abbrev Ow:= @List.nodup_nil
abbrev Ov:= @Nat.and_two_pow_sub_one_eq_mod
abbrev Ou:= @List.drop_append_of_le_length
abbrev E0:= @List.cons_append
abbrev Jr:= @List.pairwise_append
abbrev Bu:= @Nat.mul_assoc
abbrev Ot:= @List.mem_zipIdx_iff_getElem?
abbrev Oq:= @Nat.two_pow_add_eq_or_of_lt
abbrev Oo:= @Nat.testBit_two_pow_mul_add
abbrev Jq:= @Nat.pos_iff_ne_zero
abbrev EZ:= @Nat.log2_eq_iff
abbrev EY:= @Nat.and_le_left
abbrev EX:= @Int.natCast_mul
abbrev Bt:= @Nat.mul_comm
abbrev Bs:= @Nat.le_of_eq
abbrev Jp:= @List.singleton_inj
abbrev Jo:= @Int.tmod_lt_of_pos
abbrev Jm:= @Int.natCast_nonneg
abbrev Jl:= @Int.natAbs_natCast
abbrev Jk:= @Int.emod_lt_of_pos
abbrev Jj:= @Bool.not_eq_false'
abbrev On:= @List.pairwise_iff_getElem
abbrev EW:= @List.count_nil
abbrev Om:= @Int.mul_neg_of_neg_of_pos
abbrev Ji:= @Nat.or_lt_two_pow
abbrev gr8:= @List.filter_cons_of_neg
abbrev EV:= @Bool.not_true
abbrev Jh:= @List.getElem_set
abbrev Jg:= @List.getElem_map
abbrev Jf:= @List.countP_cons
abbrev Je:= @Nat.testBit_and
abbrev Ol:= @Nat.min_eq_left
abbrev EU:= @Nat.lt_trans
abbrev Oj:= @List.perm_append_comm
abbrev Jd:= @List.map_map
abbrev Jc:= @List.foldl_cons
abbrev gs9:= @List.filter_nil
abbrev gt0:= @List.any_append
abbrev Jb:= @Int.natAbs_zero
abbrev ET:= @Int.lt_or_le
abbrev Ja:= @Int.emod_nonneg
abbrev gt4:= @Bool.beq_eq_decide_eq
abbrev Oi:= @List.mem_erase_of_ne
abbrev Oh:= @List.eraseIdx_set_eq
abbrev I9:= @Nat.testBit_or
abbrev I8:= @Int.natAbs_mul
abbrev I7:= @Bool.false_and
abbrev I6:= @Bool.and_false
abbrev Og:= @Nat.testBit_two_pow
abbrev Of:= @List.mem_map_of_mem
abbrev gu3:= @List.filter_eq_self
abbrev I5:= @Nat.lt_irrefl
abbrev I4:= @List.sum_cons
abbrev Oe:= @List.mem_replicate
abbrev Od:= @List.getElem_range
abbrev I3:= @Bool.and_true
theorem tc{w:World}{k:Nat}{o:Obj}(h:w.heap[k]?=some o):k<w.heap.size:=(E8.1 h).1
theorem Ls{w:World}{k i:Nat}{c:Array Value}{t:TypeId}{fz:Nat×Nat}(h:w.heap[k]?=some (.cells c t fz)):w.cell? ⟨k,i,none⟩=c[i]?:=by simp[World.cell?,h]
theorem wG(w:World)(o:Obj):(w.alloc o).heap[w.heap.size]?=some o:=heap_alloc_new w o
end Go.Proofs.YtnikdflhefijbaaGreat
namespace Go.Proofs.YtnikdflhefijbaaGreat
open Go.RowKit Go.ChangeShapes Go.WideShapes Go.ChangeAt Go.Deep
inductive Sh where
 |int (k:IntKind)
 |bool
 |str
 |slice (e:Sh)
 |nil
 |field (f r:Sh)
def Sh.size:Sh→Nat
 |.int _=>1
 |.bool=>1
 |.str=>1
 |.slice _=>1
 |.nil=>0
 |.field f r=>f.size+r.size
def Sh.T:Sh→Type
 |.int _=>Int
 |.bool=>Bool
 |.str=>ByteArray
 |.slice e=>List e.T
 |.nil=>Unit
 |.field f r=>f.T×r.T
def Sh.MW:(s:Sh)→s.T
 |.int _=>(0:Int)
 |.bool=>false
 |.str=>ByteArray.empty
 |.slice _=>[]
 |.nil=>()
 |.field f r=>(f.MW,r.MW)
def vf(w:World)(b o:Nat)(cs:List Value):Prop:=∀j u,cs[j]?=some u→w.cell? ⟨b,o+j,none⟩=some u
def Reads(w:World):(s:Sh)→List Value→s.T→Prop
 |.int k,cs,(n:Int)=>cs=[.int k n]∧(Lit.int k n).wf=true
 |.bool,cs,(b:Bool)=>cs=[.bool b]
 |.str,cs,(s:ByteArray)=>cs=[.string s]∧s.size≤maxLen
 |.slice e,cs,(l:List e.T)=>∃(a:Option Addr) (c:Nat),cs=[.slice a l.length c]∧l.length≤c∧c≤maxLen∧(a=none→c=0)∧
   (l≠[]→∃b o,a=some ⟨b,o,none⟩∧∀i,(h:i<l.length)→∃cs',cs'.length=e.size∧vf w b (o+i*e.size) cs'∧Reads w e cs' l[i])
 |.nil,cs,_=>cs=[]
 |.field f r,cs,(d:f.T×r.T)=>∃c1 c2,cs=c1++c2∧c1.length=f.size∧Reads w f c1 d.1∧Reads w r c2 d.2
def Sh.fit(P:Program):Sh→Sum TypeId (List Field×Nat)→Bool
 |.int k,.inl t=>match P.underlying t with | some (.int k')=>decide (k=k') | _=>false
 |.bool,.inl t=>match P.underlying t with | some .bool=>true | _=>false
 |.str,.inl t=>match P.underlying t with | some .string=>true | _=>false
 |.slice e,.inl t=>match P.underlying t with | some (.slice e')=>e.fit P (.inl e')&&decide (P.cellsOf e'=e.size)&&decide (0<e.size) | _=>false
 |.nil,.inr ([],_)=>true
 |.nil,.inl t=>match P.underlying t with | some (.struct fs)=>fs.toList.isEmpty&&decide (P.cellsOf t=0) | _=>false
 |.field f r,.inr (f0::fs,off)=>decide (f0.offset=off)&&decide (P.cellsOf f0.type=f.size)&&f.fit P (.inl f0.type)&&r.fit P (.inr (fs,off+f.size))
 |.field f r,.inl t=>match P.underlying t with
  |some (.struct fs)=>match fs.toList with
   |f0::Fb=>decide (P.cellsOf t=f.size+r.size)&&(decide (f0.offset=0)&&decide (P.cellsOf f0.type=f.size)&&f.fit P (.inl f0.type)&&r.fit P (.inr (Fb,f.size)))
   | []=>false
  |_=>false
 |_,_=>false
theorem yW{a b:Bool}(h:(a&&b)=true):a=true∧b=true:=by simpa using h
theorem vf.spot{w:World}{a:Addr}{n:Nat}{cs:List Value}(hn:0<n)(hl:cs.length=n)(h:∀i,i<n→w.cell? (a.add i)=cs[i]?):a.spot=none:=by
 have h0:=h 0 hn
 rw[bF (by omega)]at h0
 exact World.cell?_spot h0
theorem aa2{H:Type}{enc:TypeId×Value→H}{P:Program}{w:World}{base:Nat}{spare:Nat→Bool}{held:Bool}(s:Sh):
  (∀(t:TypeId) (fuel:Nat) (cs:List Value) (x:DataW H×List MemPlace),s.fit P (.inl t)=true→DataW.trod enc P w base spare held fuel t cs=some x→cs.length=s.size∧∃d,Reads w s cs d)∧
  (∀(fs:List Field) (off n:Nat) (cs:List Value),s.fit P (.inr (fs,off))=true→cs.length=off+s.size→
   (∀(i:Nat) (f:Field),fs[i]?=some f→∃x,DataW.trod enc P w base spare held n f.type ((cs.drop f.offset).take (P.cellsOf f.type))=some x)→∃d,Reads w s (cs.drop off) d):=by
 induction s with
 |int k=>
  refine⟨fun t fuel cs x hf h=>?_,fun fs off n cs hf=>by simp[Sh.fit]at hf⟩
  unfold Sh.fit at hf
  split at hf
  ·rename_i k' hk
   have:=fA hf
   subst this
   obtain⟨n,rfl,_,hw⟩:=DataW.trod_int hk h
   exact⟨rfl,n,rfl,hw⟩
  ·cases hf
 |bool=>
  refine⟨fun t fuel cs x hf h=>?_,fun fs off n cs hf=>by simp[Sh.fit]at hf⟩
  unfold Sh.fit at hf
  split at hf
  ·rename_i hk
   obtain⟨b,rfl,_⟩:=DataW.trod_bool hk h
   exact⟨rfl,b,rfl⟩
  ·cases hf
 |str=>
  refine⟨fun t fuel cs x hf h=>?_,fun fs off n cs hf=>by simp[Sh.fit]at hf⟩
  unfold Sh.fit at hf
  split at hf
  ·rename_i hk
   obtain⟨b,rfl,_,hb⟩:=DataW.trod_string hk h
   exact⟨rfl,b,rfl,hb⟩
  ·cases hf
 |slice e ih=>
  refine⟨fun t fuel cs x hf h=>?_,fun fs off n cs hf=>by simp[Sh.fit]at hf⟩
  unfold Sh.fit at hf
  split at hf
  ·rename_i e' hk
   obtain⟨iV,h0⟩:=yW hf
   obtain⟨vH,eD⟩:=yW iV
   have eD:=fA eD
   have h0:=fA h0
   rcases open_slice hk h with ⟨rfl,_⟩ | ⟨a,len,cap,m,n,D,Pl,rfl,hb,hl,hm,hmm,_,hi⟩
   ·exact⟨rfl,[],none,0,rfl,Nat.le_refl _,by simp,fun _=>rfl,fun aS=>absurd rfl aS⟩
   ·have hlm:len≤m:=by rw[hmm];split <;> omega
    have hel:∀i,i<len→∃(y:List Value×e.T),y.1.length=e.size∧w.cells? base (a.add (i*e.size)) e.size=some y.1∧Reads w e y.1 y.2:=by
     intro i qz
     obtain⟨cs',h1,h2⟩:=hi i (by omega)
     obtain⟨h3,d,h4⟩:=ih.1 e' n cs' _ vH h2
     rw[eD]at h1
     exact⟨(cs',d),h3,h1,h4⟩
    obtain⟨V,hV⟩:= @choose_lt _ ⟨([],e.MW)⟩ _ _ hel
    refine⟨rfl,(List.range len).map (fun i=>(V i).2),some a,cap,by simp,by simpa using hl,hm,(fun e=>by cases e),fun aS=>?_⟩
    have tz:0<len:=by
     rcases tW len with h | h
     ·subst h;exact absurd rfl aS
     ·exact h
    obtain⟨b,o,spot⟩:=a
    have af0:spot=none:=by
     obtain⟨q1,q2,_⟩:=hV 0 tz
     obtain⟨_,q4,q5⟩:=World.cells?_some q2
     have:=vf.spot (a:=(⟨b,o,spot⟩:Addr).add (0*e.size)) h0 q4 q5
     unfold Addr.add at this
     split at this <;> simp_all
    subst af0
    refine⟨b,o,rfl,fun i hi=>?_⟩
    have eW:i<len:=by simpa using hi
    obtain⟨q1,q2,q3⟩:=hV i eW
    obtain⟨_,q4,q5⟩:=World.cells?_some q2
    refine⟨(V i).1,q1,fun j u hu=>?_,by simpa using q3⟩
    have hj:j<e.size:=by have:=(cg.1 hu).1;omega
    have:=q5 j hj
    rw[Addr.add_lit,Addr.add_lit]at this
    rw[this,hu]
  ·cases hf
 |nil=>
  refine⟨fun t fuel cs x hf h=>?_,fun fs off n cs hf hl _=>?_⟩
  ·unfold Sh.fit at hf
   split at hf
   ·rename_i fs hk
    obtain⟨_,hz⟩:=yW hf
    have hz:=fA hz
    obtain⟨xs,n,_,_,hlen,_⟩:=DataW.trod_struct hk h
    have:cs=[]:=jv.1 (by omega)
    exact⟨by simp[this,Sh.size],(),this⟩
   ·cases hf
  ·exact⟨(),List.drop_eq_nil_of_le (by simp[Sh.size]at hl;omega)⟩
 |field f r qt jV=>
  have key:∀(f0:Field) (fs:List Field) (off n:Nat) (cs:List Value),
    (decide (f0.offset=off)&&decide (P.cellsOf f0.type=f.size)&&f.fit P (.inl f0.type)&&r.fit P (.inr (fs,off+f.size)))=true→cs.length=off+(f.size+r.size)→
    (∀(i:Nat) (g:Field),(f0::fs)[i]?=some g→∃x,DataW.trod enc P w base spare held n g.type ((cs.drop g.offset).take (P.cellsOf g.type))=some x)→∃d,Reads w (.field f r) (cs.drop off) d:=by
   intro f0 fs off n cs hf hl hx
   obtain⟨iV,hr⟩:=yW hf
   obtain⟨vH,hff⟩:=yW iV
   obtain⟨ho,hc⟩:=yW vH
   have ho:=fA ho
   have hc:=fA hc
   obtain⟨x,No⟩:=hx 0 f0 rfl
   obtain⟨eQ,d1,zh⟩:=qt.1 _ _ _ _ hff No
   obtain⟨d2,tN⟩:=jV.2 fs (off+f.size) n cs hr (by omega) (fun i g hg=>hx (i+1) g (by simpa using hg))
   refine⟨(d1,d2),(cs.drop f0.offset).take (P.cellsOf f0.type),cs.drop (off+f.size),?_,eQ,zh,tN⟩
   rw[ho,hc,← List.drop_drop,E7]
  refine⟨fun t fuel cs x hf h=>?_,fun fs off n cs hf hl hx=>?_⟩
  ·unfold Sh.fit at hf
   split at hf
   ·rename_i fs hk
    split at hf
    ·rename_i f0 Fb zf
     obtain⟨hz,hf'⟩:=yW hf
     have hz:=fA hz
     obtain⟨xs,n,_,_,hlen,Nl,hg⟩:=DataW.trod_struct hk h
     have hl:cs.length=0+(f.size+r.size):=by omega
     obtain⟨d,hd⟩:=key f0 Fb 0 n cs (by simpa using hf') hl (fun i g hig=>by
      have hi:fs[i]?=some g:=by rw[← BF,zf];exact hig
      have:=hg i g hi
      have ze:i<xs.length:=by rw[Nl];exact (E8.1 hi).1
      exact⟨xs[i],by rw[this];exact bF ze⟩)
     exact⟨by simpa [Sh.size]using hl,d,by simpa using hd⟩
    ·cases hf
   ·cases hf
  ·cases fs with
   |nil=>simp[Sh.fit]at hf
   |cons f0 Fb=>exact key f0 Fb off n cs (by simpa [Sh.fit]using hf) (by simpa [Sh.size]using hl) hx
theorem Ki{H:Type}{enc:TypeId×Value→H}{P:Program}{w:World}{base:Nat}{spare:Nat→Bool}{held:Bool}{t:TypeId}{v:Value}{d:DataW H}{p:List MemPlace}(s:Sh)(hs:s.fit P (.inl t)=true)
  (h:DataW.Trod enc P w base spare held t v d p):∃x:s.T,Reads w s v.cells.toList x:=by
 obtain⟨fuel,hf⟩:=h
 exact ((aa2 s).1 t fuel _ _ hs hf).2
theorem wf_u64{n:Int}(h:(Lit.int .u64 n).wf=true):0≤n∧n<18446744073709551616:=by
 have:=bounds_u64 h
 omega
end Go.Proofs.YtnikdflhefijbaaGreat
namespace Go.Proofs.YtnikdflhefijbaaGreat
set_option maxRecDepth 100000
set_option maxHeartbeats 4000000
namespace SX
structure AP where
 n:Nat
 W:Nat
 k:Nat
 nx:Nat→List Nat
 jw:Int→Int→Int
 out:Nat→List Int→List Int
 ok:Nat→Int→Prop
 Db:∀{v u},v<n→u∈nx v→u<n
 idem:∀{i x},ok i x→jw x x=x
 comm:∀{i x y},ok i x→ok i y→jw x y=jw y x
 assoc:∀{i x y z},ok i x→ok i y→ok i z→jw (jw x y) z=jw x (jw y z)
 Na:∀{i x y},ok i x→ok i y→ok i (jw x y)
 Hy:∀{v y},v<n→y.length=W→(∀i,i<W→ok i (y.getD i 0))→(out v y).length=W∧∀i,i<W→ok i ((out v y).getD i 0)
 mono:∀{v y z},v<n→y.length=W→z.length=W→(∀i,i<W→ok i (y.getD i 0))→(∀i,i<W→ok i (z.getD i 0))→(∀i,i<W→jw (y.getD i 0) (z.getD i 0)=z.getD i 0)→∀i,i<W→jw ((out v y).getD i 0) ((out v z).getD i 0)=(out v z).getD i 0
inductive Ph where
 |idle (d a:Nat)
 |held (v:Nat)
 |clear (v:Nat)
 |read (v:Nat) (y:List Int)
 |join (v:Nat) (o:List Int) (u:Nat) (r:List Nat) (at_:Nat) (ld:Option Int) (ch:Bool)
 |take (v:Nat) (o:List Int) (u:Nat) (r:List Nat)
 |add (v:Nat) (o:List Int) (u:Nat) (r:List Nat)
 |push (v:Nat) (o:List Int) (u:Nat) (r:List Nat) (a:Nat)
 |dU (v:Nat)
 |done
structure AS where
 cell:Nat→Nat→Int
 flag:Nat→Bool
 aH:Nat
 dq:List (List Nat)
 ph:List Ph
 ev:Nat
 jo:Nat
def fU(v:Nat)(o:List Int):List Nat→Ph
 | []=>.dU v
 |u::r=>.join v o u r 0 none false
def ma(A:AP)(c:Nat→Nat→Int)(v:Nat):List Int:=(List.range A.W).map (c v)
def eN(c:Nat→Nat→Int)(v i:Nat)(x:Int):Nat→Nat→Int:=fun v' i'=>if v'=v∧i'=i then x else c v' i'
def fe(A:AP)(v:Nat)(o:List Int)(u:Nat)(r:List Nat)(at_:Nat)(ch:Bool):Ph×Nat:=
 if at_+1<A.W then (.join v o u r (at_+1) none ch,0) else if ch=true then (.take v o u r,1) else (fU v o r,0)
inductive Tr(A:AP)(S:AS)(i:Nat):AS→Prop where
 |stay (h:S.ph[i]?=some .done∨S.ph[i]?=none):Tr A S i S
 |yL (a:Nat) (h:S.ph[i]?=some (.idle 0 a)) (ha:a<5):Tr A S i { S with ph:=S.ph.set i (.idle 0 (a+1)) }
 |yM (a:Nat) (h:S.ph[i]?=some (.idle 0 a)) (hd:S.dq[i]?=some []):Tr A S i { S with ph:=S.ph.set i (.idle (if A.k<2 then 2 else 1) 0) }
 |pop (v:Nat) (c:List Nat) (a:Nat) (h:S.ph[i]?=some (.idle 0 a)) (hd:S.dq[i]?=some (c++[v])):Tr A S i { S with dq:=S.dq.set i c,ph:=S.ph.set i (.clear v) }
 |cas (v:Nat) (a:Nat) (h:S.ph[i]?=some (.idle 0 a)) (hd:S.dq[i]?=some [v]):Tr A S i { S with dq:=S.dq.set i [],ph:=S.ph.set i (.held v) }
 |zl (v:Nat) (h:S.ph[i]?=some (.held v)):Tr A S i { S with ph:=S.ph.set i (.clear v) }
 |yl (a:Nat) (h:S.ph[i]?=some (.idle 1 a)) (ha:a<3):Tr A S i { S with ph:=S.ph.set i (.idle 1 (a+1)) }
 |ym (a:Nat) (h:S.ph[i]?=some (.idle 1 a)):Tr A S i { S with ph:=S.ph.set i (.idle 2 0) }
 |cu (j v:Nat) (c:List Nat) (a:Nat) (h:S.ph[i]?=some (.idle 1 a)) (hd:S.dq[j]?=some (v::c)):Tr A S i { S with dq:=S.dq.set j c,ph:=S.ph.set i (.clear v) }
 |ask (h:S.ph[i]?=some (.idle 2 0)) (hc:S.aH≠0):Tr A S i { S with ph:=S.ph.set i (.idle (if A.k<2 then 0 else 1) 0) }
 |clear (v:Nat) (h:S.ph[i]?=some (.clear v)):Tr A S i { S with flag:=fun z=>if z=v then false else S.flag z,ph:=S.ph.set i (.read v []) }
 |yw (v:Nat) (y:List Int) (h:S.ph[i]?=some (.read v y)) (hy:y.length+1<A.W):Tr A S i { S with ph:=S.ph.set i (.read v (y++[S.cell v y.length])) }
 |yx (v:Nat) (y y':List Int) (h:S.ph[i]?=some (.read v y)) (hy:(y.length+1=A.W∧y'=y++[S.cell v y.length])∨(A.W=0∧y'=[])):Tr A S i { S with ph:=S.ph.set i (fU v (A.out v y') (A.nx v)),ev:=S.ev+1 }
 |load (v:Nat) (o:List Int) (u:Nat) (r:List Nat) (at_:Nat) (ch:Bool) (h:S.ph[i]?=some (.join v o u r at_ none ch)) (ha:at_<A.W) (hx:A.jw (S.cell u at_) (o.getD at_ 0)≠S.cell u at_):Tr A S i { S with ph:=S.ph.set i (.join v o u r at_ (some (S.cell u at_)) ch) }
 |same (v:Nat) (o:List Int) (u:Nat) (r:List Nat) (at_:Nat) (ch:Bool) (h:S.ph[i]?=some (.join v o u r at_ none ch)) (ha:at_<A.W) (hx:A.jw (S.cell u at_) (o.getD at_ 0)=S.cell u at_):Tr A S i { S with ph:=S.ph.set i (fe A v o u r at_ ch).1,jo:=S.jo+(fe A v o u r at_ ch).2 }
 |lost (v:Nat) (o:List Int) (u:Nat) (r:List Nat) (at_:Nat) (ch:Bool) (x:Int) (h:S.ph[i]?=some (.join v o u r at_ (some x) ch)) (ha:at_<A.W) (hx:S.cell u at_≠x):Tr A S i { S with ph:=S.ph.set i (.join v o u r at_ none ch) }
 |yZ (v:Nat) (o:List Int) (u:Nat) (r:List Nat) (at_:Nat) (ch:Bool) (h:S.ph[i]?=some (.join v o u r at_ (some (S.cell u at_)) ch)) (ha:at_<A.W) (hx:A.jw (S.cell u at_) (o.getD at_ 0)≠S.cell u at_):Tr A S i { S with cell:=eN S.cell u at_ (A.jw (S.cell u at_) (o.getD at_ 0)),ph:=S.ph.set i (fe A v o u r at_ true).1,jo:=S.jo+(fe A v o u r at_ true).2 }
 |none (v:Nat) (o:List Int) (u:Nat) (r:List Nat) (h:S.ph[i]?=some (.join v o u r 0 none false)) (ha:A.W=0):Tr A S i { S with ph:=S.ph.set i (fU v o r) }
 |flag (v:Nat) (o:List Int) (u:Nat) (r:List Nat) (h:S.ph[i]?=some (.take v o u r)) (hf:S.flag u=false):Tr A S i { S with flag:=fun z=>if z=u then true else S.flag z,ph:=S.ph.set i (.add v o u r) }
 |yQ (v:Nat) (o:List Int) (u:Nat) (r:List Nat) (h:S.ph[i]?=some (.take v o u r)) (hf:S.flag u=true):Tr A S i { S with ph:=S.ph.set i (fU v o r) }
 |add (v:Nat) (o:List Int) (u:Nat) (r:List Nat) (h:S.ph[i]?=some (.add v o u r)):Tr A S i { S with aH:=S.aH+1,ph:=S.ph.set i (.push v o u r 0) }
 |yy (v:Nat) (o:List Int) (u:Nat) (r:List Nat) (a:Nat) (h:S.ph[i]?=some (.push v o u r a)) (ha:a<3):Tr A S i { S with ph:=S.ph.set i (.push v o u r (a+1)) }
 |push (v:Nat) (o:List Int) (u:Nat) (r:List Nat) (c:List Nat) (h:S.ph[i]?=some (.push v o u r 3)) (hd:S.dq[i]?=some c):Tr A S i { S with dq:=S.dq.set i (c++[u]),ph:=S.ph.set i (fU v o r) }
 |dU (v:Nat) (h:S.ph[i]?=some (.dU v)):Tr A S i { S with aH:=S.aH-1,ph:=S.ph.set i (.idle 0 0) }
 |yJ (h:S.ph[i]?=some (.idle 2 0)) (hc:S.aH=0):Tr A S i { S with ph:=S.ph.set i .done }
def aN{α:Type}(f:α→Nat)(l:List α):Nat:=(l.map f).sum
theorem fN{α:Type}(f:α→Nat):∀(l:List α) (i:Nat) (x y:α),l[i]?=some x→aN f (l.set i y)+f x=aN f l+f y
 |a::l,0,x,y,h=>by
  simp at h;subst h
  show f y+aN f l+f a=f a+aN f l+f y
  omega
 |a::l,i+1,x,y,h=>by
  have:=fN f l i x y (by simpa using h)
  show f a+aN f (l.set i y)+f x=f a+aN f l+f y
  omega
theorem z7{α:Type}(f:α→Nat):∀(l:List α) (i:Nat) (x:α),l[i]?=some x→f x≤aN f l
 |a::l,0,x,h=>by
  simp at h;subst h
  show f a≤f a+aN f l
  omega
 |a::l,i+1,x,h=>by
  have:=z7 f l i x (by simpa using h)
  show f x≤f a+aN f l
  omega
theorem Rp{α:Type}(f:α→Nat){l:List α}(h:aN f l=0){x:α}(hx:x∈l):f x=0:=by
 obtain⟨i,hi⟩:=qG.1 hx
 have:=z7 f l i x hi
 omega
def qg:Ph→List Nat
 |.held v | .clear v=>[v]
 |.add _ _ u _ | .push _ _ u _ _=>[u]
 |_=>[]
def iU(z:Nat)(p:Ph):Nat:=(qg p).count z
def tok(S:AS)(v:Nat):Nat:=aN (fun l=>l.count v) S.dq+aN (iU v) S.ph
def cw:Ph→Nat
 |.idle _ _ | .done=>0
 |.push .. => 2
 |_=>1
def nodes:Ph→List Nat
 |.idle _ _ | .done=>[]
 |.held v | .clear v | .read v _ | .dU v=>[v]
 |.join v _ u r _ _ _ | .take v _ u r | .add v _ u r | .push v _ u r _=>v::u::r
structure TI(A:AP)(S:AS):Prop where
 tok:∀v,tok S v=if S.flag v then 1 else 0
 aH:S.aH=aN List.length S.dq+aN cw S.ph
 nT:∀c∈S.dq,∀v∈c,v<A.n
 si:∀p∈S.ph,∀v∈nodes p,v<A.n
theorem CO(v:Nat)(o:List Int)(r:List Nat):cw (fU v o r)=1:=by cases r <;> rfl
theorem Cv(v:Nat)(o:List Int)(r:List Nat):qg (fU v o r)=[]:=by cases r <;> rfl
theorem BY{v:Nat}{o:List Int}{r:List Nat}{z:Nat}(h:z∈nodes (fU v o r)):z=v∨z∈r:=by
 cases r with
 |nil=>simp[fU,nodes]at h;exact .inl h
 |cons u r=>simp[fU,nodes]at h;simp;omega
theorem R6(A:AP)(v:Nat)(o:List Int)(u:Nat)(r:List Nat)(at_:Nat)(ch:Bool):cw (fe A v o u r at_ ch).1=1:=by
 unfold fe;split
 ·rfl
 ·split
  ·rfl
  ·exact CO _ _ _
theorem QL(A:AP)(v:Nat)(o:List Int)(u:Nat)(r:List Nat)(at_:Nat)(ch:Bool):qg (fe A v o u r at_ ch).1=[]:=by
 unfold fe;split
 ·rfl
 ·split
  ·rfl
  ·exact Cv _ _ _
theorem Pg{A:AP}{v:Nat}{o:List Int}{u:Nat}{r:List Nat}{at_:Nat}{ch:Bool}{z:Nat}(h:z∈nodes (fe A v o u r at_ ch).1):z∈v::u::r:=by
 revert h
 unfold fe;split
 ·exact id
 ·split
  ·exact id
  ·intro h
   rcases BY h with h | h <;> simp[h]
theorem TI.ph{A:AP}{S:AS}(h:TI A S){i:Nat}{p q:Ph}(hi:S.ph[i]?=some p)(ht:qg q=qg p)(hc:cw q=cw p)(hn:∀z∈nodes q,z<A.n){S':AS}(e1:S'.flag=S.flag)(e2:S'.aH=S.aH)(e3:S'.dq=S.dq)(e4:S'.ph=S.ph.set i q):TI A S':=by
 refine⟨fun v=>?_,?_,?_,?_⟩
 ·have:=fN (iU v) S.ph i p q hi
  have e0:iU v q=iU v p:=by unfold iU;rw[ht]
  have h1:=h.tok v
  unfold SX.tok at h1 ⊢
  rw[e1,e3,e4]
  omega
 ·have:=fN cw S.ph i p q hi
  have h1:=h.aH
  rw[e2,e3,e4]
  omega
 ·rw[e3];exact h.nT
 ·rw[e4]
  intro x hx v hv
  rcases qH hx with hx | rfl
  ·exact h.si x hx v hv
  ·exact hn v hv
theorem TI.at_{A:AP}{S:AS}(h:TI A S){i:Nat}{p:Ph}(hi:S.ph[i]?=some p){v:Nat}(hv:v∈nodes p):v<A.n:=h.si p (cq hi) v hv
theorem wh{S:AS}{A:AP}(h:∀p∈S.ph,∀v∈nodes p,v<A.n){i:Nat}{q:Ph}(hn:∀z∈nodes q,z<A.n):∀p∈S.ph.set i q,∀v∈nodes p,v<A.n:=by
 intro x hx v hv
 rcases qH hx with hx | rfl
 ·exact h x hx v hv
 ·exact hn v hv
theorem FG{S:AS}{A:AP}(h:∀c∈S.dq,∀v∈c,v<A.n){i:Nat}{c:List Nat}(hn:∀z∈c,z<A.n):∀c'∈S.dq.set i c,∀v∈c',v<A.n:=by
 intro x hx v hv
 rcases qH hx with hx | rfl
 ·exact h x hx v hv
 ·exact hn v hv
theorem Ae(a b:Nat):[a].count b=if a=b then 1 else 0:=by
 rw[List.count_singleton]
 by_cases h:a=b <;> simp[h]
theorem TI.step{A:AP}{S S':AS}{i:Nat}(h:TI A S)(hs:Tr A S i S'):TI A S':=by
 cases hs with
 |stay=>exact h
 |yL a hp ha=>exact h.ph (q:=.idle 0 (a+1)) hp rfl rfl (by simp[nodes]) rfl rfl rfl rfl
 |yM a hp hd=>exact h.ph (q:=.idle (if A.k<2 then 2 else 1) 0) hp rfl rfl (by simp[nodes]) rfl rfl rfl rfl
 |yl a hp ha=>exact h.ph (q:=.idle 1 (a+1)) hp rfl rfl (by simp[nodes]) rfl rfl rfl rfl
 |ym a hp=>exact h.ph (q:=.idle 2 0) hp rfl rfl (by simp[nodes]) rfl rfl rfl rfl
 |ask hp hc=>exact h.ph (q:=.idle (if A.k<2 then 0 else 1) 0) hp rfl rfl (by simp[nodes]) rfl rfl rfl rfl
 |yy v o u r a hp ha=>exact h.ph (q:=.push v o u r (a+1)) hp rfl rfl (fun z hz=>h.at_ hp hz) rfl rfl rfl rfl
 |pop v c a hp hd=>
  have hv:v<A.n:=h.nT _ (List.mem_of_getElem? hd) v (by simp)
  refine⟨fun z=>?_,?_,FG h.nT (fun z hz=>h.nT _ (List.mem_of_getElem? hd) z (by simp[hz])),wh h.si (by simpa [nodes]using hv)⟩
  ·have k1:=fN (iU z) S.ph i _ (.clear v) hp
   have k2:=fN (fun l=>l.count z) S.dq i _ c hd
   have k3:=h.tok z
   unfold SX.tok at k3 ⊢
   simp only[iU,qg,List.count_append,Ae,EW]at k1 k2
   show aN _ (S.dq.set i c)+aN _ (S.ph.set i (.clear v))=if S.flag z then 1 else 0
   omega
  ·have k1:=fN cw S.ph i _ (.clear v) hp
   have k2:=fN List.length S.dq i _ c hd
   have k3:=h.aH
   simp only[cw,bP,sJ]at k1 k2
   show S.aH=aN List.length (S.dq.set i c)+aN cw (S.ph.set i (.clear v))
   omega
 |cas v a hp hd=>
  have hv:v<A.n:=h.nT _ (List.mem_of_getElem? hd) v (by simp)
  refine⟨fun z=>?_,?_,FG h.nT (fun z hz=>by cases hz),wh h.si (by simpa [nodes]using hv)⟩
  ·have k1:=fN (iU z) S.ph i _ (.held v) hp
   have k2:=fN (fun l=>l.count z) S.dq i _ [] hd
   have k3:=h.tok z
   unfold SX.tok at k3 ⊢
   simp only[iU,qg,Ae,EW]at k1 k2
   show aN _ (S.dq.set i [])+aN _ (S.ph.set i (.held v))=if S.flag z then 1 else 0
   omega
  ·have k1:=fN cw S.ph i _ (.held v) hp
   have k2:=fN List.length S.dq i _ [] hd
   have k3:=h.aH
   simp only[cw,List.length_nil,sJ]at k1 k2
   show S.aH=aN List.length (S.dq.set i [])+aN cw (S.ph.set i (.held v))
   omega
 |zl v hp=>exact h.ph (q:=.clear v) hp rfl rfl (by have:=h.at_ hp (v:=v) (by simp[nodes]);simpa [nodes]using this) rfl rfl rfl rfl
 |cu j v c a hp hd=>
  have hv:v<A.n:=h.nT _ (List.mem_of_getElem? hd) v (by simp)
  refine⟨fun z=>?_,?_,FG h.nT (fun z hz=>h.nT _ (List.mem_of_getElem? hd) z (by simp[hz])),wh h.si (by simpa [nodes]using hv)⟩
  ·have k1:=fN (iU z) S.ph i _ (.clear v) hp
   have k2:=fN (fun l=>l.count z) S.dq j _ c hd
   have k3:=h.tok z
   unfold SX.tok at k3 ⊢
   have k4:(v::c).count z=[v].count z+c.count z:=by rw[← List.count_append];rfl
   simp only[iU,qg,Ae,EW,k4]at k1 k2
   show aN _ (S.dq.set j c)+aN _ (S.ph.set i (.clear v))=if S.flag z then 1 else 0
   omega
  ·have k1:=fN cw S.ph i _ (.clear v) hp
   have k2:=fN List.length S.dq j _ c hd
   have k3:=h.aH
   simp only[cw,iy]at k1 k2
   show S.aH=aN List.length (S.dq.set j c)+aN cw (S.ph.set i (.clear v))
   omega
 |clear v hp=>
  have hv:=h.at_ hp (v:=v) (by simp[nodes])
  refine⟨fun z=>?_,?_,h.nT,wh h.si (by simpa [nodes]using hv)⟩
  ·have k1:=fN (iU z) S.ph i _ (.read v []) hp
   have k3:=h.tok z
   have k5:=z7 (iU z) S.ph i _ hp
   unfold SX.tok at k3 ⊢
   simp only[iU,qg,Ae,EW]at k1 k5
   show aN _ S.dq+aN _ (S.ph.set i (.read v []))=if (if z=v then false else S.flag z) then 1 else 0
   by_cases hz:v=z
   ·subst hz
    simp only[if_true]at k1 k5 ⊢
    split at k3 <;> simp <;> omega
   ·have ez:(if z=v then false else S.flag z)=S.flag z:=ag fun e=>hz e.symm
    rw[ez]
    simp only[ag hz]at k1
    omega
  ·have k1:=fN cw S.ph i _ (.read v []) hp
   have k3:=h.aH
   simp only[cw]at k1
   show S.aH=aN List.length S.dq+aN cw (S.ph.set i (.read v []))
   omega
 |yw v y hp hy=>exact h.ph (q:=.read v (y++[S.cell v y.length])) hp rfl rfl (by have:=h.at_ hp (v:=v) (by simp[nodes]);simpa [nodes]using this) rfl rfl rfl rfl
 |yx v y y' hp hy=>
  have hv:=h.at_ hp (v:=v) (by simp[nodes])
  exact h.ph (q:=fU v (A.out v y') (A.nx v)) hp (Cv _ _ _) (CO _ _ _) (fun z hz=>by
   rcases BY hz with rfl | hz
   ·exact hv
   ·exact A.Db hv hz) rfl rfl rfl rfl
 |load v o u r at_ ch hp ha hx=>exact h.ph (q:=.join v o u r at_ (some (S.cell u at_)) ch) hp rfl rfl (fun z hz=>h.at_ hp hz) rfl rfl rfl rfl
 |same v o u r at_ ch hp ha hx=>exact h.ph (q:=(fe A v o u r at_ ch).1) hp (QL ..) (R6 ..) (fun z hz=>h.at_ hp (Pg hz)) rfl rfl rfl rfl
 |lost v o u r at_ ch x hp ha hx=>exact h.ph (q:=.join v o u r at_ none ch) hp rfl rfl (fun z hz=>h.at_ hp hz) rfl rfl rfl rfl
 |yZ v o u r at_ ch hp ha hx=>exact h.ph (q:=(fe A v o u r at_ true).1) hp (QL ..) (R6 ..) (fun z hz=>h.at_ hp (Pg hz)) rfl rfl rfl rfl
 |none v o u r hp ha=>exact h.ph (q:=fU v o r) hp (Cv _ _ _) (CO _ _ _) (fun z hz=>h.at_ hp (by rcases BY hz with hz | hz <;> simp[nodes,hz])) rfl rfl rfl rfl
 |flag v o u r hp hf=>
  refine⟨fun z=>?_,?_,h.nT,wh h.si (fun z hz=>h.at_ hp hz)⟩
  ·have k1:=fN (iU z) S.ph i _ (.add v o u r) hp
   have k3:=h.tok z
   unfold SX.tok at k3 ⊢
   simp only[iU,qg,Ae,EW]at k1
   show aN _ S.dq+aN _ (S.ph.set i (.add v o u r))=if (if z=u then true else S.flag z) then 1 else 0
   by_cases hz:u=z
   ·subst hz
    rw[hf]at k3
    simp at k1 k3 ⊢
    omega
   ·have ez:(if z=u then true else S.flag z)=S.flag z:=ag fun e=>hz e.symm
    rw[ez]
    simp only[ag hz]at k1
    omega
  ·have k1:=fN cw S.ph i _ (.add v o u r) hp
   have k3:=h.aH
   simp only[cw]at k1
   show S.aH=aN List.length S.dq+aN cw (S.ph.set i (.add v o u r))
   omega
 |yQ v o u r hp hf=>exact h.ph (q:=fU v o r) hp (Cv _ _ _) (CO _ _ _) (fun z hz=>h.at_ hp (by rcases BY hz with hz | hz <;> simp[nodes,hz])) rfl rfl rfl rfl
 |add v o u r hp=>
  refine⟨fun z=>?_,?_,h.nT,wh h.si (fun z hz=>h.at_ hp hz)⟩
  ·have k1:=fN (iU z) S.ph i _ (.push v o u r 0) hp
   have k3:=h.tok z
   unfold SX.tok at k3 ⊢
   simp only[iU,qg]at k1
   show aN _ S.dq+aN _ (S.ph.set i (.push v o u r 0))=if S.flag z then 1 else 0
   omega
  ·have k1:=fN cw S.ph i _ (.push v o u r 0) hp
   have k3:=h.aH
   simp only[cw]at k1
   show S.aH+1=aN List.length S.dq+aN cw (S.ph.set i (.push v o u r 0))
   omega
 |push v o u r c hp hd=>
  have hu:=h.at_ hp (v:=u) (by simp[nodes])
  refine⟨fun z=>?_,?_,FG h.nT (fun z hz=>?_),wh h.si (fun z hz=>h.at_ hp (by rcases BY hz with hz | hz <;> simp[nodes,hz]))⟩
  ·have k1:=fN (iU z) S.ph i _ (fU v o r) hp
   have k2:=fN (fun l=>l.count z) S.dq i _ (c++[u]) hd
   have k3:=h.tok z
   unfold SX.tok at k3 ⊢
   have e0:iU z (fU v o r)=0:=by unfold iU;rw[Cv];rfl
   rw[e0]at k1
   simp only[iU,qg,List.count_append,Ae]at k1 k2
   show aN _ (S.dq.set i (c++[u]))+aN _ (S.ph.set i (fU v o r))=if S.flag z then 1 else 0
   omega
  ·have k1:=fN cw S.ph i _ (fU v o r) hp
   have k2:=fN List.length S.dq i _ (c++[u]) hd
   have k3:=h.aH
   rw[CO]at k1
   simp only[cw,bP,sJ]at k1 k2
   show S.aH=aN List.length (S.dq.set i (c++[u]))+aN cw (S.ph.set i (fU v o r))
   omega
  ·rcases bV.1 hz with hz | hz
   ·exact h.nT _ (cq hd) z hz
   ·rw[bB.1 hz];exact hu
 |dU v hp=>
  refine⟨fun z=>?_,?_,h.nT,wh h.si (by simp[nodes])⟩
  ·have k1:=fN (iU z) S.ph i _ (.idle 0 0) hp
   have k3:=h.tok z
   unfold SX.tok at k3 ⊢
   simp only[iU,qg]at k1
   show aN _ S.dq+aN _ (S.ph.set i (.idle 0 0))=if S.flag z then 1 else 0
   omega
  ·have k1:=fN cw S.ph i _ (.idle 0 0) hp
   have k3:=h.aH
   simp only[cw]at k1
   show S.aH-1=aN List.length S.dq+aN cw (S.ph.set i (.idle 0 0))
   omega
 |yJ hp hc=>exact h.ph (q:=.done) hp rfl rfl (by simp[nodes]) rfl rfl rfl rfl
end SX
end Go.Proofs.YtnikdflhefijbaaGreat
namespace Go.Proofs.YtnikdflhefijbaaGreat
set_option maxRecDepth 100000
set_option maxHeartbeats 4000000
namespace SX
variable {A:AP}
theorem le_trans{i:Nat}{x y z:Int}(hx:A.ok i x)(hy:A.ok i y)(hz:A.ok i z)(h1:A.jw x y=y)(h2:A.jw y z=z):A.jw x z=z:=by
 rw[← h2,← A.assoc hx hy hz,h1]
theorem Lf{i:Nat}{x y:Int}(hx:A.ok i x)(hy:A.ok i y):A.jw x (A.jw x y)=A.jw x y:=by
 rw[← A.assoc hx hx hy,A.idem hx]
theorem RZ{i:Nat}{x y:Int}(hx:A.ok i x)(hy:A.ok i y):A.jw y (A.jw x y)=A.jw x y:=by
 rw[A.comm hx hy,← A.assoc hy hy hx,A.idem hy]
theorem acu{i:Nat}{x y z:Int}(hx:A.ok i x)(hy:A.ok i y)(hz:A.ok i z)(h1:A.jw x z=z)(h2:A.jw y z=z):A.jw (A.jw x y) z=z:=by
 rw[A.assoc hx hy hz,h2,h1]
theorem Gb(c:Nat→Nat→Int)(v:Nat):(ma A c v).length=A.W:=by simp[ma]
theorem Ce(c:Nat→Nat→Int)(v:Nat){i:Nat}(h:i<A.W):(ma A c v).getD i 0=c v i:=by
 unfold ma
 rw[bg,fo,tX h];rfl
theorem Ag(c:Nat→Nat→Int)(v i:Nat)(x:Int):eN c v i x v i=x:=by simp[eN]
theorem uB{c:Nat→Nat→Int}{v i:Nat}{x:Int}{v' i':Nat}(h:¬(v'=v∧i'=i)):eN c v i x v' i'=c v' i':=by simp only[eN,ag h]
theorem Zf{c:Nat→Nat→Int}{v i:Nat}{x:Int}{v':Nat}(h:v'≠v):ma A (eN c v i x) v'=ma A c v':=by
 unfold ma
 refine vR fun j _=>?_
 exact uB fun e=>h e.1
structure Du(A:AP)(b:Nat→Nat→Int)(v:Nat)(o:List Int):Prop where
 len:o.length=A.W
 ok:∀i,i<A.W→A.ok i (o.getD i 0)
 low:∀u∈A.nx v,∀i,i<A.W→A.jw (o.getD i 0) (b u i)=b u i
def ve(A:AP)(b cell:Nat→Nat→Int):Ph→Prop
 |.read v y=>(y.length<A.W∨(A.W=0∧y=[]))∧∀i,i<y.length→A.ok i (y.getD i 0)∧A.jw (y.getD i 0) (cell v i)=cell v i
 |.join v o u r at_ ld _=>Du A b v o∧u∈A.nx v∧(∀z∈r,z∈A.nx v)∧(∀i,i<at_→i<A.W→A.jw (o.getD i 0) (cell u i)=cell u i)∧(∀x,ld=some x→at_<A.W)
 |.take v o u r | .add v o u r | .push v o u r _=>Du A b v o∧u∈A.nx v∧(∀z∈r,z∈A.nx v)∧(∀i,i<A.W→A.jw (o.getD i 0) (cell u i)=cell u i)
 |_=>True
structure VN(A:AP)(b:Nat→Nat→Int):Prop where
 ok:∀v i,v<A.n→i<A.W→A.ok i (b v i)
 out:∀v,v<A.n→∀u∈A.nx v,∀i,i<A.W→A.jw ((A.out v (ma A b v)).getD i 0) (b u i)=b u i
structure VI(A:AP)(b:Nat→Nat→Int)(S:AS):Prop where
 ok:∀v i,v<A.n→i<A.W→A.ok i (S.cell v i)
 low:∀v i,v<A.n→i<A.W→A.jw (S.cell v i) (b v i)=b v i
 ph:∀p∈S.ph,ve A b S.cell p
theorem ve.afx{b cell AJ:Nat→Nat→Int}{p:Ph}(h:ve A b cell p)(hn:∀v∈nodes p,v<A.n)(h0:∀v i,v<A.n→i<A.W→A.ok i (cell v i))(h1:∀v i,v<A.n→i<A.W→A.ok i (AJ v i))(h2:∀v i,v<A.n→i<A.W→A.jw (cell v i) (AJ v i)=AJ v i):ve A b AJ p:=by
 have key:∀{v:Nat} {o:List Int} {u:Nat} {m:Nat},Du A b v o→u<A.n→(∀i,i<m→i<A.W→A.jw (o.getD i 0) (cell u i)=cell u i)→∀i,i<m→i<A.W→A.jw (o.getD i 0) (AJ u i)=AJ u i:=by
  intro v o u m ho hu hj i hi hw
  exact le_trans (ho.ok i hw) (h0 u i hu hw) (h1 u i hu hw) (hj i hi hw) (h2 u i hu hw)
 cases p with
 |read v y=>
  obtain⟨h3,h4⟩:=h
  refine⟨h3,fun i hi=>⟨(h4 i hi).1,?_⟩⟩
  have hw:i<A.W:=by (rcases h3 with h3 | ⟨_,rfl⟩);exact EU hi h3;cases hi
  have hv:=hn v (by simp[nodes])
  exact le_trans (h4 i hi).1 (h0 v i hv hw) (h1 v i hv hw) (h4 i hi).2 (h2 v i hv hw)
 |join v o u r at_ ld ch=>
  obtain⟨h3,h4,h5,h6,h7⟩:=h
  exact⟨h3,h4,h5,key h3 (hn u (by simp[nodes])) h6,h7⟩
 |take v o u r=>
  obtain⟨h3,h4,h5,h6⟩:=h
  exact⟨h3,h4,h5,fun i hi=>key (m:=A.W) h3 (hn u (by simp[nodes])) (fun i _ hw=>h6 i hw) i hi hi⟩
 |add v o u r=>
  obtain⟨h3,h4,h5,h6⟩:=h
  exact⟨h3,h4,h5,fun i hi=>key (m:=A.W) h3 (hn u (by simp[nodes])) (fun i _ hw=>h6 i hw) i hi hi⟩
 |push v o u r a=>
  obtain⟨h3,h4,h5,h6⟩:=h
  exact⟨h3,h4,h5,fun i hi=>key (m:=A.W) h3 (hn u (by simp[nodes])) (fun i _ hw=>h6 i hw) i hi hi⟩
 |_=>trivial
theorem CM{b cell:Nat→Nat→Int}{v:Nat}{o:List Int}{r:List Nat}(h:Du A b v o)(hr:∀z∈r,z∈A.nx v):ve A b cell (fU v o r):=by
 cases r with
 |nil=>trivial
 |cons u r=>exact⟨h,hr u (by simp),fun z hz=>hr z (by simp[hz]),fun i hi=>absurd hi (Nat.not_lt_zero _),fun x hx=>by cases hx⟩
theorem R4{b cell:Nat→Nat→Int}{v:Nat}{o:List Int}{u:Nat}{r:List Nat}{at_:Nat}{ch:Bool}(h:Du A b v o)(hu:u∈A.nx v)(hr:∀z∈r,z∈A.nx v)(hj:∀i,i<at_+1→i<A.W→A.jw (o.getD i 0) (cell u i)=cell u i):ve A b cell (fe A v o u r at_ ch).1:=by
 unfold fe
 split
 ·exact⟨h,hu,hr,hj,fun x hx=>by cases hx⟩
 ·split
  ·exact⟨h,hu,hr,fun i hi=>hj i (by omega) hi⟩
  ·exact CM h hr
theorem F9(y:List Int)(x:Int)(i:Nat):(y++[x]).getD i 0=if i<y.length then y.getD i 0 else if i=y.length then x else 0:=by
 simp only[bg]
 by_cases h:i<y.length
 ·rw[ah h,jY h]
 ·rw[ag h,iX (by omega)]
  by_cases h2:i=y.length
  ·simp[h2]
  ·rw[if_neg h2,List.getElem?_eq_none (by simp;omega)];rfl
theorem VI.step{b:Nat→Nat→Int}{S S':AS}{i:Nat}(hb:VN A b)(ht:TI A S)(h:VI A b S)(hs:Tr A S i S'):VI A b S'∧∀v j,v<A.n→j<A.W→A.jw (S.cell v j) (S'.cell v j)=S'.cell v j:=by
 have hrefl:∀v j,v<A.n→j<A.W→A.jw (S.cell v j) (S.cell v j)=S.cell v j:=fun v j hv hj=>A.idem (h.ok v j hv hj)
 have jS:∀{q:Ph} {S':AS},S'.cell=S.cell→S'.ph=S.ph.set i q→ve A b S.cell q→VI A b S'∧∀v j,v<A.n→j<A.W→A.jw (S.cell v j) (S'.cell v j)=S'.cell v j:=by
  intro q S' e1 e2 hq
  refine⟨⟨by rw[e1];exact h.ok,by rw[e1];exact h.low,?_⟩,by rw[e1];exact hrefl⟩
  rw[e1,e2]
  intro p hp
  rcases qH hp with hp | rfl
  ·exact h.ph p hp
  ·exact hq
 have at_:∀{p:Ph},S.ph[i]?=some p→ve A b S.cell p:=fun hp=>h.ph _ (cq hp)
 cases hs with
 |stay=>exact⟨h,hrefl⟩
 |yL a hp ha=>exact jS rfl rfl trivial
 |yM a hp hd=>exact jS rfl rfl trivial
 |yl a hp ha=>exact jS rfl rfl trivial
 |ym a hp=>exact jS rfl rfl trivial
 |ask hp hc=>exact jS rfl rfl trivial
 |yy v o u r a hp ha=>
  obtain⟨h1,h2,h3,h4⟩:=at_ hp
  exact jS rfl rfl ⟨h1,h2,h3,h4⟩
 |pop v c a hp hd=>exact jS rfl rfl trivial
 |cas v a hp hd=>exact jS rfl rfl trivial
 |zl v hp=>exact jS rfl rfl trivial
 |cu j v c a hp hd=>exact jS rfl rfl trivial
 |clear v hp=>exact jS rfl rfl ⟨(tW A.W).elim (fun h=>.inr ⟨h,rfl⟩) .inl,fun i hi=>by cases hi⟩
 |yw v y hp hy=>
  obtain⟨h1,h2⟩:=at_ hp
  have hv:=ht.at_ hp (v:=v) (by simp[nodes])
  refine jS rfl rfl ⟨.inl (by simp;omega),fun j hj=>?_⟩
  simp at hj
  rw[F9]
  by_cases iw:j<y.length
  ·rw[ah iw];exact h2 j iw
  ·have:j=y.length:=by omega
   subst this
   rw[ag (by omega),ah rfl]
   exact⟨h.ok v _ hv (by omega),hrefl v _ hv (by omega)⟩
 |yx v y y' hp hy=>
  obtain⟨h1,h2⟩:=at_ hp
  have hv:=ht.at_ hp (v:=v) (by simp[nodes])
  have tH:y'.length=A.W∧∀j,j<A.W→A.ok j (y'.getD j 0)∧A.jw (y'.getD j 0) (S.cell v j)=S.cell v j:=by
   rcases hy with ⟨hl,rfl⟩ | ⟨hw,rfl⟩
   ·refine⟨by simpa using hl,fun j hj=>?_⟩
    rw[F9]
    by_cases iw:j<y.length
    ·rw[ah iw];exact h2 j iw
    ·have:j=y.length:=by omega
     subst this
     rw[ag (by omega),ah rfl]
     exact⟨h.ok v _ hv (by omega),hrefl v _ hv (by omega)⟩
   ·exact⟨hw.symm,fun j hj=>by omega⟩
  obtain⟨k1,k2⟩:=A.Hy hv tH.1 fun j hj=>(tH.2 j hj).1
  have oQ:=Gb (A:=A) b v
  obtain⟨m1,m2⟩:=A.Hy hv oQ fun j hj=>by rw[Ce b v hj];exact hb.ok v j hv hj
  have af4:=A.mono hv tH.1 oQ (fun j hj=>(tH.2 j hj).1) (fun j hj=>by rw[Ce b v hj];exact hb.ok v j hv hj) fun j hj=>by
   rw[Ce b v hj]
   exact le_trans (tH.2 j hj).1 (h.ok v j hv hj) (hb.ok v j hv hj) (tH.2 j hj).2 (h.low v j hv hj)
  refine jS rfl rfl (CM ⟨k1,k2,fun u hu j hj=>?_⟩ fun z hz=>hz)
  exact le_trans (k2 j hj) (m2 j hj) (hb.ok u j (A.Db hv hu) hj) (af4 j hj) (hb.out v hv u hu j hj)
 |load v o u r a ch hp ha hx=>
  obtain⟨h1,h2,h3,h4,_⟩:=at_ hp
  exact jS rfl rfl ⟨h1,h2,h3,h4,fun _ _=>ha⟩
 |same v o u r a ch hp ha hx=>
  obtain⟨h1,h2,h3,h4,_⟩:=at_ hp
  have hu:=ht.at_ hp (v:=u) (by simp[nodes])
  refine jS rfl rfl (R4 h1 h2 h3 fun j hj hw=>?_)
  rcases BD (E2 hj) with hj | rfl
  ·exact h4 j hj hw
  ·rw[A.comm (h1.ok j hw) (h.ok u j hu hw),hx]
 |lost v o u r a ch x hp ha hx=>
  obtain⟨h1,h2,h3,h4,_⟩:=at_ hp
  exact jS rfl rfl ⟨h1,h2,h3,h4,fun _ hx=>by cases hx⟩
 |yZ v o u r a ch hp ha hx=>
  obtain⟨h1,h2,h3,h4,_⟩:=at_ hp
  have hu:=ht.at_ hp (v:=u) (by simp[nodes])
  have xr:=h1.ok a ha
  have oP:=h.ok u a hu ha
  have bO:∀v' j,v'<A.n→j<A.W→A.ok j (eN S.cell u a (A.jw (S.cell u a) (o.getD a 0)) v' j):=fun v' j oL hj=>by
   by_cases he:v'=u∧j=a
   ·obtain⟨rfl,rfl⟩:=he
    rw[Ag];exact A.Na oP xr
   ·rw[uB he];exact h.ok v' j oL hj
  have HB:∀v' j,v'<A.n→j<A.W→A.jw (S.cell v' j) (eN S.cell u a (A.jw (S.cell u a) (o.getD a 0)) v' j)=eN S.cell u a (A.jw (S.cell u a) (o.getD a 0)) v' j:=fun v' j oL hj=>by
   by_cases he:v'=u∧j=a
   ·obtain⟨rfl,rfl⟩:=he
    rw[Ag];exact Lf oP xr
   ·rw[uB he];exact hrefl v' j oL hj
  refine⟨⟨bO,fun v' j oL hj=>?_,?_⟩,HB⟩
  ·show A.jw (eN S.cell u a (A.jw (S.cell u a) (o.getD a 0)) v' j) (b v' j)=b v' j
   by_cases he:v'=u∧j=a
   ·obtain⟨rfl,rfl⟩:=he
    rw[Ag]
    exact acu oP xr (hb.ok _ _ hu ha) (h.low _ _ hu ha) (h1.low _ h2 _ ha)
   ·rw[uB he];exact h.low v' j oL hj
  ·intro p nM
   rcases qH nM with nM | rfl
   ·exact (h.ph p nM).afx (ht.si p nM) h.ok bO HB
   ·refine R4 h1 h2 h3 fun j hj hw=>?_
    show A.jw (o.getD j 0) (eN S.cell u a (A.jw (S.cell u a) (o.getD a 0)) u j)=eN S.cell u a (A.jw (S.cell u a) (o.getD a 0)) u j
    rcases BD (E2 hj) with hj | rfl
    ·rw[uB (fun e=>by omega)];exact h4 j hj hw
    ·rw[Ag];exact RZ oP xr
 |none v o u r hp ha=>
  obtain⟨h1,h2,h3,h4,_⟩:=at_ hp
  exact jS rfl rfl (CM h1 h3)
 |flag v o u r hp hf=>
  obtain⟨h1,h2,h3,h4⟩:=at_ hp
  exact jS rfl rfl ⟨h1,h2,h3,h4⟩
 |yQ v o u r hp hf=>
  obtain⟨h1,h2,h3,h4⟩:=at_ hp
  exact jS rfl rfl (CM h1 h3)
 |add v o u r hp=>
  obtain⟨h1,h2,h3,h4⟩:=at_ hp
  exact jS rfl rfl ⟨h1,h2,h3,h4⟩
 |push v o u r c hp hd=>
  obtain⟨h1,h2,h3,h4⟩:=at_ hp
  exact jS rfl rfl (CM h1 h3)
 |dU v hp=>exact jS rfl rfl trivial
 |yJ hp hc=>exact jS rfl rfl trivial
end SX
end Go.Proofs.YtnikdflhefijbaaGreat
namespace Go.Proofs.YtnikdflhefijbaaGreat
set_option maxRecDepth 100000
set_option maxHeartbeats 4000000
namespace SX
variable {A:AP}
def Hx(v:Nat):Ph→Prop
 |.join _ _ u _ _ _ ch=>u=v∧ch=true
 |.take _ _ u _=>u=v
 |_=>False
def Hw(cell:Nat→Nat→Int)(v:Nat):Ph→Prop
 |.read z y=>z=v∧∀i,i<y.length→y.getD i 0=cell v i
 |_=>False
def A0(A:AP)(cell:Nat→Nat→Int)(v u:Nat):Ph→Prop
 |.join z o u' r _ _ _=>z=v∧o=A.out v (ma A cell v)∧(u=u'∨u∈r)
 |.take z o _ r | .add z o _ r | .push z o _ r _=>z=v∧o=A.out v (ma A cell v)∧u∈r
 |_=>False
def Bb(A:AP)(cell:Nat→Nat→Int)(v u:Nat):Prop:=∀i,i<A.W→A.jw ((A.out v (ma A cell v)).getD i 0) (cell u i)=cell u i
def xN(A:AP)(S:AS)(v:Nat):Prop:=
 S.flag v=true∨(∃p∈S.ph,Hx v p)∨(∃p∈S.ph,Hw S.cell v p)∨∀u∈A.nx v,Bb A S.cell v u∨∃p∈S.ph,A0 A S.cell v u p
theorem PV{α:Type}{l:List α}{i:Nat}{p q x:α}(hi:l[i]?=some p)(hx:x∈l):x=p∨x∈l.set i q:=by
 obtain⟨j,hj⟩:=qG.1 hx
 by_cases h:i=j
 ·subst h;rw[hi]at hj;exact .inl (Option.some.inj hj).symm
 ·right
  refine qG.2 ⟨j,?_⟩
  rw[e8,ag h];exact hj
theorem O3{α:Type}{l:List α}{i:Nat}{p q:α}(hi:l[i]?=some p):q∈l.set i q:=by
 refine qG.2 ⟨i,?_⟩
 rw[e8,ah rfl,ah (cg.1 hi).1]
theorem xN.keep{S S':AS}{i:Nat}{p q:Ph}{v:Nat}(h:xN A S v)(hi:S.ph[i]?=some p)(e1:S'.cell=S.cell)(e2:S'.ph=S.ph.set i q)
  (hf:S.flag v=true→S'.flag v=true∨Hw S.cell v q) (hp:Hx v p→Hx v q∨S'.flag v=true) (hr:Hw S.cell v p→Hw S.cell v q∨∀u∈A.nx v,A0 A S.cell v u q) (hc:∀u,A0 A S.cell v u p→A0 A S.cell v u q∨Bb A S.cell v u):xN A S' v:=by
 have hq:q∈S'.ph:=by rw[e2];exact O3 hi
 have hm:∀x∈S.ph,x=p∨x∈S'.ph:=fun x hx=>by rw[e2];exact PV hi hx
 rcases h with h | ⟨x,hx,h⟩ | ⟨x,hx,h⟩ | h
 ·rcases hf h with h | h
  ·exact .inl h
  ·exact .inr (.inr (.inl ⟨q,hq,by rw[e1];exact h⟩))
 ·rcases hm x hx with rfl | hx
  ·rcases hp h with h | h
   ·exact .inr (.inl ⟨q,hq,h⟩)
   ·exact .inl h
  ·exact .inr (.inl ⟨x,hx,h⟩)
 ·rcases hm x hx with rfl | hx
  ·rcases hr h with h | h
   ·exact .inr (.inr (.inl ⟨q,hq,by rw[e1];exact h⟩))
   ·exact .inr (.inr (.inr fun u hu=>.inr ⟨q,hq,by rw[e1];exact h u hu⟩))
  ·exact .inr (.inr (.inl ⟨x,hx,by rw[e1];exact h⟩))
 ·refine .inr (.inr (.inr fun u hu=>?_))
  rw[e1]
  rcases h u hu with h | ⟨x,hx,h⟩
  ·exact .inl h
  ·rcases hm x hx with rfl | hx
   ·rcases hc u h with h | h
    ·exact .inr ⟨q,hq,h⟩
    ·exact .inl h
   ·exact .inr ⟨x,hx,h⟩
theorem Cw{cell:Nat→Nat→Int}{v z:Nat}{o:List Int}{r:List Nat}{u:Nat}(h1:z=v)(h2:o=A.out v (ma A cell v))(h3:u∈r):A0 A cell v u (fU z o r):=by
 cases r with
 |nil=>cases h3
 |cons w r=>exact⟨h1,h2,by simpa using h3⟩
theorem PX{v z:Nat}{o:List Int}{u:Nat}{r:List Nat}{at_:Nat}{ch:Bool}(h:u=v∧ch=true):Hx v (fe A z o u r at_ ch).1:=by
 obtain⟨h1,rfl⟩:=h
 unfold fe
 split
 ·exact⟨h1,rfl⟩
 ·rw[ah rfl];exact h1
theorem QM{cell:Nat→Nat→Int}{v z:Nat}{o:List Int}{u w:Nat}{r:List Nat}{at_:Nat}{ch:Bool}(h1:z=v)(h2:o=A.out v (ma A cell v))(h3:w=u∨w∈r)(hj:∀i,i<at_+1→i<A.W→A.jw (o.getD i 0) (cell u i)=cell u i):A0 A cell v w (fe A z o u r at_ ch).1∨Bb A cell v w:=by
 unfold fe
 split
 ·exact .inl ⟨h1,h2,h3⟩
 ·rename_i hw
  rcases h3 with rfl | h3
  ·exact .inr fun i hi=>by rw[← h2];exact hj i (by omega) hi
  ·split
   ·exact .inl ⟨h1,h2,h3⟩
   ·exact .inl (Cw h1 h2 h3)
theorem OW{y z:List Int}(hl:y.length=z.length)(h:∀i,i<y.length→y.getD i 0=z.getD i 0):y=z:=by
 refine BL hl fun i h1 h2=>?_
 have:=h i h1
 simpa [List.getD_eq_getElem?_getD,h1,h2]using this
theorem xN.step{b:Nat→Nat→Int}{S S':AS}{i:Nat}(ht:TI A S)(hv:VI A b S)(hs:Tr A S i S'){v:Nat}(dm:v<A.n)(h:xN A S v):xN A S' v:=by
 have at_:∀{p:Ph},S.ph[i]?=some p→ve A b S.cell p:=fun hp=>hv.ph _ (cq hp)
 cases hs with
 |stay=>exact h
 |yL a hp ha=>exact h.keep hp rfl rfl .inl (fun h=>h.elim) (fun h=>h.elim) fun u h=>h.elim
 |yM a hp hd=>exact h.keep hp rfl rfl .inl (fun h=>h.elim) (fun h=>h.elim) fun u h=>h.elim
 |yl a hp ha=>exact h.keep hp rfl rfl .inl (fun h=>h.elim) (fun h=>h.elim) fun u h=>h.elim
 |ym a hp=>exact h.keep hp rfl rfl .inl (fun h=>h.elim) (fun h=>h.elim) fun u h=>h.elim
 |ask hp hc=>exact h.keep hp rfl rfl .inl (fun h=>h.elim) (fun h=>h.elim) fun u h=>h.elim
 |yy z o u r a hp ha=>exact h.keep hp rfl rfl .inl (fun h=>h.elim) (fun h=>h.elim) fun u h=>.inl h
 |pop z c a hp hd=>exact h.keep hp rfl rfl .inl (fun h=>h.elim) (fun h=>h.elim) fun u h=>h.elim
 |cas z a hp hd=>exact h.keep hp rfl rfl .inl (fun h=>h.elim) (fun h=>h.elim) fun u h=>h.elim
 |zl z hp=>exact h.keep hp rfl rfl .inl (fun h=>h.elim) (fun h=>h.elim) fun u h=>h.elim
 |cu j z c a hp hd=>exact h.keep hp rfl rfl .inl (fun h=>h.elim) (fun h=>h.elim) fun u h=>h.elim
 |clear z hp=>
  refine h.keep hp rfl rfl (fun hf=>?_) (fun h=>h.elim) (fun h=>h.elim) fun u h=>h.elim
  by_cases hz:v=z
  ·exact .inr ⟨hz.symm,fun i hi=>absurd hi (nR _)⟩
  ·left;show (if v=z then false else S.flag v)=true;rw[ag hz];exact hf
 |yw z y hp hy=>
  refine h.keep hp rfl rfl .inl (fun h=>h.elim) (fun h=>.inl ?_) fun u h=>h.elim
  obtain⟨rfl,h2⟩:=h
  refine⟨rfl,fun j hj=>?_⟩
  simp at hj
  rw[F9]
  by_cases iw:j<y.length
  ·rw[ah iw];exact h2 j iw
  ·rw[ag iw,ah (by omega),show j=y.length by omega]
 |yx z y y' hp hy=>
  refine h.keep hp rfl rfl .inl (fun h=>h.elim) (fun h=>.inr fun u hu=>?_) fun u h=>h.elim
  obtain⟨rfl,h2⟩:=h
  have e:y'=ma A S.cell z:=by
   rcases hy with ⟨hl,rfl⟩ | ⟨hw,rfl⟩
   ·refine OW (by rw[Gb];simpa using hl) fun j hj=>?_
    simp at hj
    rw[Ce _ _ (by omega),F9]
    by_cases iw:j<y.length
    ·rw[ah iw];exact h2 j iw
    ·rw[ag iw,ah (by omega),show j=y.length by omega]
   ·exact OW (by rw[Gb];exact hw.symm) fun j hj=>absurd hj (nR _)
  exact Cw rfl (by rw[e]) hu
 |load z o u r a ch hp ha hx=>exact h.keep hp rfl rfl .inl .inl (fun h=>h.elim) fun u h=>.inl h
 |same z o u r a ch hp ha hx=>
  obtain⟨h1,h2,h3,h4,_⟩:=at_ hp
  have hu:=ht.at_ hp (v:=u) (by simp[nodes])
  refine h.keep hp rfl rfl .inl (fun h=>.inl (PX h)) (fun h=>h.elim) fun w hw=>?_
  obtain⟨k1,k2,k3⟩:=hw
  refine QM k1 k2 k3 fun j hj hw=>?_
  rcases BD (E2 hj) with hj | rfl
  ·exact h4 j hj hw
  ·rw[A.comm (h1.ok j hw) (hv.ok u j hu hw),hx]
 |lost z o u r a ch x hp ha hx=>exact h.keep hp rfl rfl .inl .inl (fun h=>h.elim) fun u h=>.inl h
 |yZ z o u r a ch hp ha hx=>
  obtain⟨h1,h2,h3,h4,_⟩:=at_ hp
  have hu:=ht.at_ hp (v:=u) (by simp[nodes])
  have xr:=h1.ok a ha
  have oP:=hv.ok u a hu ha
  have hq:(fe A z o u r a true).1∈(S.ph.set i (fe A z o u r a true).1):=O3 hp
  by_cases IE:v=u
  ·exact .inr (.inl ⟨_,hq,PX ⟨IE.symm,rfl⟩⟩)
  ·have lH:∀j,eN S.cell u a (A.jw (S.cell u a) (o.getD a 0)) v j=S.cell v j:=fun j=>uB fun e=>IE e.1
   have hL:ma A (eN S.cell u a (A.jw (S.cell u a) (o.getD a 0))) v=ma A S.cell v:=Zf IE
   have hle:∀w∈A.nx v,Bb A S.cell v w→Bb A (eN S.cell u a (A.jw (S.cell u a) (o.getD a 0))) v w:=fun w hw hl j hj=>by
    rw[hL]
    have hwn:=A.Db dm hw
    by_cases he:w=u∧j=a
    ·obtain⟨rfl,rfl⟩:=he
     rw[Ag]
     obtain⟨m1,m2⟩:=A.Hy dm (Gb (A:=A) S.cell v) fun j hj=>by rw[Ce _ _ hj];exact hv.ok v j dm hj
     exact le_trans (m2 _ hj) oP (A.Na oP xr) (hl _ hj) (Lf oP xr)
    ·rw[uB he];exact hl j hj
   have hm:∀x∈S.ph,x=.join z o u r a (some (S.cell u a)) ch∨x∈S.ph.set i (fe A z o u r a true).1:=fun x hx=>PV hp hx
   rcases h with h | ⟨x,jW,h⟩ | ⟨x,jW,h⟩ | h
   ·exact .inl h
   ·rcases hm x jW with rfl | jW
    ·exact absurd h.1.symm IE
    ·exact .inr (.inl ⟨x,jW,h⟩)
   ·rcases hm x jW with rfl | jW
    ·exact h.elim
    ·refine .inr (.inr (.inl ⟨x,jW,?_⟩))
     cases x with
     |read z' y=>exact⟨h.1,fun j hj=>by rw[h.2 j hj];exact (lH j).symm⟩
     |_=>exact h.elim
   ·refine .inr (.inr (.inr fun w hw=>?_))
    rcases h w hw with h | ⟨x,jW,h⟩
    ·exact .inl (hle w hw h)
    ·rcases hm x jW with rfl | jW
     ·obtain⟨k1,k2,k3⟩:=h
      have hwn:=A.Db dm hw
      have:=QM (A:=A) (cell:=eN S.cell u a (A.jw (S.cell u a) (o.getD a 0))) (r:=r) (at_:=a) (ch:=true) k1 (k2.trans (by rw[hL])) k3 fun j hj hw=>by
       rcases BD (E2 hj) with hj | rfl
       ·rw[uB (fun e=>by omega)];exact h4 j hj hw
       ·rw[Ag];exact RZ oP xr
      rcases this with h | h
      ·exact .inr ⟨_,hq,h⟩
      ·exact .inl h
     ·right
      refine⟨x,jW,?_⟩
      cases x with
      |join z' o' u' r' a' ld' ch'=>exact⟨h.1,h.2.1.trans (by rw[hL]),h.2.2⟩
      |take z' o' u' r'=>exact⟨h.1,h.2.1.trans (by rw[hL]),h.2.2⟩
      |add z' o' u' r'=>exact⟨h.1,h.2.1.trans (by rw[hL]),h.2.2⟩
      |push z' o' u' r' a'=>exact⟨h.1,h.2.1.trans (by rw[hL]),h.2.2⟩
      |_=>exact h.elim
 |none z o u r hp ha=>
  obtain⟨h1,h2,h3,h4,_⟩:=at_ hp
  refine h.keep hp rfl rfl .inl (fun h=>by cases h.2) (fun h=>h.elim) fun w hw=>?_
  obtain⟨k1,k2,k3⟩:=hw
  rcases k3 with rfl | k3
  ·exact .inr fun i hi=>by omega
  ·exact .inl (Cw k1 k2 k3)
 |flag z o u r hp hf=>
  refine h.keep hp rfl rfl (fun h=>.inl ?_) (fun h=>.inr ?_) (fun h=>h.elim) fun u h=>.inl h
  ·show (if v=u then true else S.flag v)=true;(split);rfl;exact h
  ·have h:u=v:=h
   show (if v=u then true else S.flag v)=true;rw[ah h.symm]
 |yQ z o u r hp hf=>
  refine h.keep hp rfl rfl .inl (fun h=>.inr ?_) (fun h=>h.elim) fun w hw=>.inl (Cw hw.1 hw.2.1 hw.2.2)
  have h:u=v:=h
  rw[← h];exact hf
 |add z o u r hp=>exact h.keep hp rfl rfl .inl (fun h=>h.elim) (fun h=>h.elim) fun u h=>.inl h
 |push z o u r c hp hd=>exact h.keep hp rfl rfl .inl (fun h=>h.elim) (fun h=>h.elim) fun w hw=>.inl (Cw hw.1 hw.2.1 hw.2.2)
 |dU z hp=>exact h.keep hp rfl rfl .inl (fun h=>h.elim) (fun h=>h.elim) fun u h=>h.elim
 |yJ hp hc=>exact h.keep hp rfl rfl .inl (fun h=>h.elim) (fun h=>h.elim) fun u h=>h.elim
theorem vY{α:Type}{f:α→Nat}:∀{l:List α},(∀x∈l,f x=0)→aN f l=0
 | [],_=>rfl
 |a::l,h=>by
  show f a+aN f l=0
  rw[h a (ck ..),vY fun x hx=>h x (cW _ hx)]
theorem TI.quiet{S:AS}(h:TI A S)(h0:S.aH=0):(∀c∈S.dq,c=[])∧(∀p∈S.ph,(∃d a,p=.idle d a)∨p=.done)∧∀v,S.flag v=false:=by
 have hc:=h.aH
 have h1:∀c∈S.dq,c=[]:=fun c ju=>jv.1 (Rp List.length (by omega) ju)
 have h2:∀p∈S.ph,(∃d a,p=.idle d a)∨p=.done:=fun p hp=>by
  have:=Rp cw (l:=S.ph) (by omega) hp
  cases p <;> simp[cw]at this <;> simp
 refine⟨h1,h2,fun v=>?_⟩
 have ht:=h.tok v
 have e1:aN (fun l:List Nat=>l.count v) S.dq=0:=vY fun c hc=>by rw[h1 c hc];rfl
 have e2:aN (iU v) S.ph=0:=vY fun p hp=>by rcases h2 p hp with ⟨d,a,rfl⟩ | rfl <;> rfl
 unfold SX.tok at ht
 rw[e1,e2]at ht
 cases hf:S.flag v with
 |false=>rfl
 |true=>rw[hf]at ht;cases ht
def Rest(S:AS):Prop:=.done∈S.ph→S.aH=0
theorem Rest.step{S S':AS}{i:Nat}(ht:TI A S)(h:Rest S)(hs:Tr A S i S'):Rest S':=by
 have key:∀{p q:Ph},S.ph[i]?=some p→q≠.done→Ph.done∈S.ph.set i q→S.aH=0:=fun hp hq hd=>by
  rcases qH hd with hd | hd
  ·exact h hd
  ·exact absurd hd.symm hq
 have hj:∀v o u r a ch,(fe A v o u r a ch).1≠.done:=fun v o u r a ch=>by
  unfold fe;split
  ·exact fun h=>by cases h
  ·split
   ·exact fun h=>by cases h
   ·cases r <;> exact fun h=>by cases h
 have hf:∀v o r,fU v o r≠.done:=fun v o r=>by cases r <;> exact fun h=>by cases h
 intro hd
 cases hs with
 |stay=>exact h hd
 |yL a hp ha=>exact key hp (fun h=>by cases h) hd
 |yM a hp ha=>exact key hp (fun h=>by cases h) hd
 |yl a hp ha=>exact key hp (fun h=>by cases h) hd
 |ym a hp=>exact key hp (fun h=>by cases h) hd
 |ask hp hc=>exact key hp (fun h=>by cases h) hd
 |yy v o u r a hp ha=>exact key hp (fun h=>by cases h) hd
 |pop v c a hp h2=>exact key hp (fun h=>by cases h) hd
 |cas v a hp h2=>exact key hp (fun h=>by cases h) hd
 |zl v hp=>exact key hp (fun h=>by cases h) hd
 |cu j v c a hp h2=>exact key hp (fun h=>by cases h) hd
 |clear v hp=>exact key hp (fun h=>by cases h) hd
 |yw v y hp hy=>exact key hp (fun h=>by cases h) hd
 |yx v y y' hp hy=>exact key hp (hf _ _ _) hd
 |load v o u r a ch hp ha hx=>exact key hp (fun h=>by cases h) hd
 |same v o u r a ch hp ha hx=>exact key hp (hj _ _ _ _ _ _) hd
 |lost v o u r a ch x hp ha hx=>exact key hp (fun h=>by cases h) hd
 |yZ v o u r a ch hp ha hx=>exact key hp (hj _ _ _ _ _ _) hd
 |none v o u r hp ha=>exact key hp (hf _ _ _) hd
 |flag v o u r hp h2=>exact key hp (fun h=>by cases h) hd
 |yQ v o u r hp h2=>exact key hp (hf _ _ _) hd
 |add v o u r hp=>
  have h0:=key hp (fun h=>by cases h) hd
  have:=ht.aH
  have:=z7 cw S.ph i _ hp
  simp[cw]at this
  omega
 |push v o u r c hp h2=>exact key hp (hf _ _ _) hd
 |dU v hp=>show S.aH-1=0;rw[key hp (fun h=>by cases h) hd]
 |yJ hp hc=>exact hc
def hY:Ph→Nat
 |.held _ | .clear _ | .read .. | .take .. | .add .. | .push .. => 1
 |_=>0
theorem CN(v:Nat)(o:List Int)(r:List Nat):hY (fU v o r)=0:=by cases r <;> rfl
theorem R5(A:AP)(v:Nat)(o:List Int)(u:Nat)(r:List Nat)(at_:Nat)(ch:Bool):hY (fe A v o u r at_ ch).1=(fe A v o u r at_ ch).2:=by
 unfold fe;split
 ·rfl
 ·split
  ·rfl
  ·exact CN _ _ _
def EI(S:AS)(n:Nat):Prop:=S.ev+aN List.length S.dq+aN hY S.ph≤n+S.jo
theorem EI.step{S S':AS}{i n:Nat}(h:EI S n)(hs:Tr A S i S'):EI S' n:=by
 unfold EI at h ⊢
 have key:=fun p q (hp:S.ph[i]?=some p)=>fN hY S.ph i p q hp
 have HY:=fun j (c d:List Nat) (hp:S.dq[j]?=some c)=>fN List.length S.dq j c d hp
 cases hs with
 |stay=>exact h
 |yL a hp ha=>have:=key _ (.idle 0 (a+1)) hp;simp only[hY]at *;omega
 |yM a hp ha=>have:=key _ (.idle (if A.k<2 then 2 else 1) 0) hp;simp only[hY]at *;omega
 |yl a hp ha=>have:=key _ (.idle 1 (a+1)) hp;simp only[hY]at *;omega
 |ym a hp=>have:=key _ (.idle 2 0) hp;simp only[hY]at *;omega
 |ask hp hc=>have:=key _ (.idle (if A.k<2 then 0 else 1) 0) hp;simp only[hY]at *;omega
 |yy v o u r a hp ha=>have:=key _ (.push v o u r (a+1)) hp;simp only[hY]at *;omega
 |pop v c a hp hd=>have:=key _ (.clear v) hp;have:=HY _ _ c hd;simp[hY]at *;omega
 |cas v a hp hd=>have:=key _ (.held v) hp;have:=HY _ _ [] hd;simp[hY]at *;omega
 |zl v hp=>have:=key _ (.clear v) hp;simp[hY]at *;omega
 |cu j v c a hp hd=>have:=key _ (.clear v) hp;have:=HY _ _ c hd;simp[hY]at *;omega
 |clear v hp=>have:=key _ (.read v []) hp;simp[hY]at *;omega
 |yw v y hp hy=>have:=key _ (.read v (y++[S.cell v y.length])) hp;simp only[hY]at *;omega
 |yx v y y' hp hy=>have:=key _ (fU v (A.out v y') (A.nx v)) hp;rw[CN]at this;simp only[hY]at *;omega
 |load v o u r a ch hp ha hx=>have:=key _ (.join v o u r a (some (S.cell u a)) ch) hp;simp only[hY]at *;omega
 |same v o u r a ch hp ha hx=>have:=key _ (fe A v o u r a ch).1 hp;rw[R5]at this;simp only[hY]at *;omega
 |lost v o u r a ch x hp ha hx=>have:=key _ (.join v o u r a none ch) hp;simp only[hY]at *;omega
 |yZ v o u r a ch hp ha hx=>have:=key _ (fe A v o u r a true).1 hp;rw[R5]at this;simp only[hY]at *;omega
 |none v o u r hp ha=>have:=key _ (fU v o r) hp;rw[CN]at this;simp only[hY]at *;omega
 |flag v o u r hp hf=>have:=key _ (.add v o u r) hp;simp only[hY]at *;omega
 |yQ v o u r hp hf=>have:=key _ (fU v o r) hp;rw[CN]at this;simp only[hY]at *;omega
 |add v o u r hp=>have:=key _ (.push v o u r 0) hp;simp only[hY]at *;omega
 |push v o u r c hp hd=>have:=key _ (fU v o r) hp;rw[CN]at this;have:=HY _ _ (c++[u]) hd;simp only[hY,bP,sJ]at *;omega
 |dU v hp=>have:=key _ (.idle 0 0) hp;simp only[hY]at *;omega
 |yJ hp hc=>have:=key _ .done hp;simp only[hY]at *;omega
def fM:Ph→Nat
 |.join _ _ _ _ _ _ true=>1
 |_=>0
theorem CP(v:Nat)(o:List Int)(r:List Nat):fM (fU v o r)=0:=by cases r <;> rfl
theorem R7(A:AP)(v:Nat)(o:List Int)(u:Nat)(r:List Nat)(at_:Nat)(ch:Bool):fM (fe A v o u r at_ ch).1+(fe A v o u r at_ ch).2=if ch then 1 else 0:=by
 unfold fe;split
 ·cases ch <;> rfl
 ·cases ch with
  |true=>rfl
  |false=>show fM (fU v o r)+0=0;rw[CP]
structure VM(A:AP)(Us:List Nat)(rk:(Nat→Int)→Nat):Prop where
 nodup:Us.Nodup
 all:∀v,v<A.n→∀u∈A.nx v,u∈Us
 up:∀(c:Nat→Int) (i:Nat) (x:Int),i<A.W→(∀j,j<A.W→A.ok j (c j))→A.ok i x→A.jw (c i) x≠c i→rk c+1≤rk fun j=>if j=i then A.jw (c i) x else c j
def JI(S:AS)(Us:List Nat)(rk:(Nat→Int)→Nat):Prop:=S.jo+aN fM S.ph≤aN (fun u=>rk (S.cell u)) Us
theorem B1{α:Type}{f g:α→Nat}:∀{l:List α},(∀x∈l,f x=g x)→aN f l=aN g l
 | [],_=>rfl
 |a::l,h=>by
  show f a+aN f l=g a+aN g l
  rw[h a (ck ..),B1 fun x hx=>h x (cW _ hx)]
theorem K4{f g:Nat→Nat}{u:Nat}:∀{l:List Nat},l.Nodup→u∈l→(∀x∈l,x≠u→f x=g x)→aN f l+g u=aN g l+f u
 |a::l,hn,hu,h=>by
  obtain⟨h1,h2⟩:=mr.1 hn
  show f a+aN f l+g u=g a+aN g l+f u
  rcases eF.1 hu with rfl | hu
  ·rw[B1 (f:=f) (g:=g) (l:=l) fun x hx=>h x (cW _ hx) fun e=>h1 (e▸hx)]
   omega
  ·have:=K4 h2 hu fun x hx=>h x (cW _ hx)
   rw[h a (ck ..) fun e=>h1 (e▸hu)]
   omega
theorem JI.step{b:Nat→Nat→Int}{S S':AS}{i:Nat}{Us:List Nat}{rk:(Nat→Int)→Nat}(hr:VM A Us rk)(ht:TI A S)(hv:VI A b S)(h:JI S Us rk)(hs:Tr A S i S'):JI S' Us rk:=by
 unfold JI at h ⊢
 have key:=fun p q (hp:S.ph[i]?=some p)=>fN fM S.ph i p q hp
 cases hs with
 |stay=>exact h
 |yL a hp ha=>have:=key _ (.idle 0 (a+1)) hp;simp only[fM]at *;omega
 |yM a hp ha=>have:=key _ (.idle (if A.k<2 then 2 else 1) 0) hp;simp only[fM]at *;omega
 |yl a hp ha=>have:=key _ (.idle 1 (a+1)) hp;simp only[fM]at *;omega
 |ym a hp=>have:=key _ (.idle 2 0) hp;simp only[fM]at *;omega
 |ask hp hc=>have:=key _ (.idle (if A.k<2 then 0 else 1) 0) hp;simp only[fM]at *;omega
 |yy v o u r a hp ha=>have:=key _ (.push v o u r (a+1)) hp;simp only[fM]at *;omega
 |pop v c a hp hd=>have:=key _ (.clear v) hp;simp only[fM]at *;omega
 |cas v a hp hd=>have:=key _ (.held v) hp;simp only[fM]at *;omega
 |zl v hp=>have:=key _ (.clear v) hp;simp only[fM]at *;omega
 |cu j v c a hp hd=>have:=key _ (.clear v) hp;simp only[fM]at *;omega
 |clear v hp=>have:=key _ (.read v []) hp;simp only[fM]at *;omega
 |yw v y hp hy=>have:=key _ (.read v (y++[S.cell v y.length])) hp;simp only[fM]at *;omega
 |yx v y y' hp hy=>have:=key _ (fU v (A.out v y') (A.nx v)) hp;rw[CP]at this;simp only[fM]at *;omega
 |load v o u r a ch hp ha hx=>
  have:=key _ (.join v o u r a (some (S.cell u a)) ch) hp
  have e:fM (.join v o u r a (some (S.cell u a)) ch)=fM (.join v o u r a none ch):=by cases ch <;> rfl
  rw[e]at this
  show S.jo+aN fM (S.ph.set i _)≤aN (fun u=>rk (S.cell u)) Us
  omega
 |same v o u r a ch hp ha hx=>
  have:=key _ (fe A v o u r a ch).1 hp
  have e:=R7 A v o u r a ch
  have e2:fM (.join v o u r a none ch)=if ch then 1 else 0:=by cases ch <;> rfl
  rw[e2]at this
  show S.jo+(fe A v o u r a ch).2+aN fM (S.ph.set i _)≤aN (fun u=>rk (S.cell u)) Us
  omega
 |lost v o u r a ch x hp ha hx=>
  have:=key _ (.join v o u r a none ch) hp
  have e:fM (.join v o u r a (some x) ch)=fM (.join v o u r a none ch):=by cases ch <;> rfl
  rw[e]at this
  show S.jo+aN fM (S.ph.set i _)≤aN (fun u=>rk (S.cell u)) Us
  omega
 |yZ v o u r a ch hp ha hx=>
  obtain⟨h1,h2,h3,h4,_⟩:=hv.ph _ (cq hp)
  have fm:=ht.at_ hp (v:=u) (by simp[nodes])
  have dm:=ht.at_ hp (v:=v) (by simp[nodes])
  have:=key _ (fe A v o u r a true).1 hp
  have e:=R7 A v o u r a true
  rw[ah rfl]at e
  have mi:=hr.up (S.cell u) a (o.getD a 0) ha (fun j hj=>hv.ok u j fm hj) (h1.ok a ha) hx
  have ox:=K4 (f:=fun z=>rk (eN S.cell u a (A.jw (S.cell u a) (o.getD a 0)) z)) (g:=fun z=>rk (S.cell z)) hr.nodup (hr.all v dm u h2) fun z _ hz=>by
   show rk _=rk _
   congr 1
   funext j
   exact uB fun e=>hz e.1
  have e3:(eN S.cell u a (A.jw (S.cell u a) (o.getD a 0)) u)=fun j=>if j=a then A.jw (S.cell u a) (o.getD a 0) else S.cell u j:=by
   funext j;simp[eN]
  simp only[e3]at ox
  have hone':aN (fun z=>rk (eN S.cell u a (A.jw (S.cell u a) (o.getD a 0)) z)) Us+rk (S.cell u)=aN (fun z=>rk (S.cell z)) Us+rk (fun j=>if j=a then A.jw (S.cell u a) (o.getD a 0) else S.cell u j):=ox
  show S.jo+(fe A v o u r a true).2+aN fM (S.ph.set i _)≤aN (fun z=>rk (eN S.cell u a (A.jw (S.cell u a) (o.getD a 0)) z)) Us
  omega
 |none v o u r hp ha=>have:=key _ (fU v o r) hp;rw[CP]at this;simp only[fM]at *;omega
 |flag v o u r hp hf=>have:=key _ (.add v o u r) hp;simp only[fM]at *;omega
 |yQ v o u r hp hf=>have:=key _ (fU v o r) hp;rw[CP]at this;simp only[fM]at *;omega
 |add v o u r hp=>have:=key _ (.push v o u r 0) hp;simp only[fM]at *;omega
 |push v o u r c hp hd=>have:=key _ (fU v o r) hp;rw[CP]at this;simp only[fM]at *;omega
 |dU v hp=>have:=key _ (.idle 0 0) hp;simp only[fM]at *;omega
 |yJ hp hc=>have:=key _ .done hp;simp only[fM]at *;omega
end SX
inductive AV where
 |int (k:IntKind) (n:Int)
 |bool (b:Bool)
 |str (s:ByteArray)
 |af (e:Sh) (l:List e.T)
 |kB
 |ia
 |aj
 |ae (b off len e:Nat)
 |cR
 |ptr (b off:Nat)
 |fV (cs:List AV)
 |agg (cs:List AV)
 |tup (vs:List AV)
 |iface (t:TypeId) (v:AV)
 |nilif
 |fn (f:Fn) (first cap:List AV)
 |iP
 |px
 |gp (n:Int)
 |fS (n m:Int)
 |any
 |via (v:AV)
 |nA (b:Nat)
 |oq (l:List (Int×Int))
 |nH (b:Nat)
 |r8 (m c:Nat) (seen:List Nat)
 |mF (L:Loop) (t:Nat→AV)
abbrev Hp:Type:=List (Nat×List AV)
abbrev Tm:Type:=Nat→AV
def Sh.cells:(s:Sh)→s.T→List AV
 |.int k,(n:Int)=>[.int k n]
 |.bool,(b:Bool)=>[.bool b]
 |.str,(s:ByteArray)=>[.str s]
 |.slice e,(l:List e.T)=>[.af e l]
 |.nil,_=>[]
 |.field f r,(d:f.T×r.T)=>f.cells d.1++r.cells d.2
def AV.leaf:AV→Bool
 |.agg _ | .tup _ | .any | .oq _ | .r8 _ _ _ | .mF _ _=>false
 |_=>true
def AV.cells?:AV→Option (List AV)
 |.agg cs=>some cs
 |.tup _ | .any | .oq _ | .r8 _ _ _ | .mF _ _=>none
 |v=>some [v]
inductive TK where
 |int (k:IntKind) | bool | str | slice (e:TypeId) | ptr (e:TypeId) | bh (fs:List (Nat×TypeId)) | arr (n:Nat) (e:TypeId) | iface | func | map (k e:TypeId) | gp | fS | other
structure TI where
 k:TK
 size:Nat
 bytes:Nat
 zero:List AV
def TI.wide(i:TI):Bool:=match i.k with | .bh _ | .arr _ _=>true | _=>false
def Ai:Value→AV
 |.int k n=>.int k n
 |.bool b=>.bool b
 |.string s=>.str s
 |.pointer none=>.cR
 |.slice none 0 0=>.aj
 |.nilIface=>.nilif
 |.nilFunc=>.iP
 |.map none=>.px
 |_=>.any
def UM:Value→AV
 |.agg cs=>match (cs.toList.map Ai).all AV.leaf with | true=>.agg (cs.toList.map Ai) | false=>.any
 |.tuple vs=>match vs.toList with | []=>.tup [] | _=>.any
 |v=>Ai v
def ev(t:Tm):Operand→AV
 |.tmp i=>t i
 |.const v=>UM v
 |.global _=>.any
 |.func f=>.fn (.func f) [] []
def put(t:Tm)(d:Option Tmp)(v:AV):Tm:=
 match d with
 |none=>t
 |some d=>fun i=>match Nat.beq i d with | true=>v | false=>t i
def Dr(b:Bool)(A B:Prop):Prop:=match b with | true=>A | false=>B
theorem ew{b:Bool}{A B:Prop}(h1:b=true→A)(h2:b=false→B):Dr b A B:=by cases b;exact h2 rfl;exact h1 rfl
theorem aq{p:Prop}[Decidable p]{A B:Prop}(h1:p→A)(h2:¬p→B):Dr (decide p) A B:=by
 by_cases h:p
 ·simp only[h,decide_true];exact h1 h
 ·simp only[h,decide_false];exact h2 h
theorem J7{b:Bool}{A B:Prop}(h:b=true)(h1:A):Dr b A B:=by subst h;exact h1
theorem W8{b:Bool}{A B:Prop}(h:b=false)(h1:B):Dr b A B:=by subst h;exact h1
def strict(v:AV)(K:AV→Prop):Prop:=
 match v with
 |.int k n=>K (.int k n)
 |.bool b=>K (.bool b)
 |.str s=>K (.str s)
 |.af e l=>K (.af e l)
 |.kB=>K .kB
 |.ia=>K .ia
 |.aj=>K .aj
 |.ae b o l e=>K (.ae b o l e)
 |.cR=>K .cR
 |.ptr b o=>K (.ptr b o)
 |.fV cs=>K (.fV cs)
 |.agg cs=>K (.agg cs)
 |.tup vs=>K (.tup vs)
 |.iface t v=>K (.iface t v)
 |.nilif=>K .nilif
 |.fn f a c=>K (.fn f a c)
 |.iP=>K .iP
 |.px=>K .px
 |.gp n=>K (.gp n)
 |.fS n m=>K (.fS n m)
 |.any=>K .any
 |.via v=>K (.via v)
 |.nA b=>K (.nA b)
 |.oq l=>K (.oq l)
 |.nH b=>K (.nH b)
 |.r8 m c s=>K (.r8 m c s)
 |.mF L t=>K (.mF L t)
theorem x6(v:AV)(K:AV→Prop):strict v K=K v:=by cases v <;> rfl
def bQ:AV→AV
 |.via v=>v
 |v=>v
structure aI(p:Prop)(X:Prop):Prop where
 fact:p
 go:X
def ey(i:TI)(cs:List AV)(off:Nat):Option AV:=
 match i.wide with
 |true=>match Nat.ble (off+i.size) cs.length with | true=>some (.agg ((cs.drop off).take i.size)) | false=>none
 |false=>cs[off]?
def ga(cs:List AV)(off:Nat):List AV→List AV
 | []=>cs
 |v::r=>ga (cs.set off v) (off+1) r
def kQ(i:TI)(cs:List AV)(off:Nat)(v:AV):Option (List AV):=
 match v.cells? with
 |some vs=>match Nat.beq vs.length i.size,Nat.ble (off+i.size) cs.length with | true,true=>some (ga cs off vs) | _,_=>none
 |none=>none
inductive fE(i:TI)(σ:Hp)(b o:Nat)(K:AV→Prop):Prop where
 |mk (j:Nat) (cs:List AV) (v:AV) (h1:σ[j]?=some (b,cs)) (h2:ey i cs o=some v) (go:K v)
inductive G1(i:TI)(σ:Hp)(b o:Nat)(v:AV)(K:Hp→Prop):Prop where
 |mk (j:Nat) (cs cs':List AV) (h1:σ[j]?=some (b,cs)) (h2:kQ i cs o v=some cs') (go:K (σ.set j (b,cs')))
theorem aT{i:TI}{σ:Hp}{b o:Nat}{K:AV→Prop}(j:Nat){cs:List AV}{v:AV}(h1:σ[j]?=some (b,cs))(h2:ey i cs o=some v)(go:K v):fE i σ b o K:=.mk j cs v h1 h2 go
theorem da{i:TI}{σ:Hp}{b o:Nat}{v:AV}{K:Hp→Prop}(j:Nat){cs cs':List AV}(h1:σ[j]?=some (b,cs))(h2:kQ i cs o v=some cs')(go:K (σ.set j (b,cs'))):G1 i σ b o v K:=.mk j cs cs' h1 h2 go
theorem aa{i:TI}{σ:Hp}{b o:Nat}{K:AV→Prop}(j:Nat){cs:List AV}{v:AV}(go:K v)(h1:σ[j]?=some (b,cs):=by exact rfl)(h2:ey i cs o=some v:=by exact rfl):fE i σ b o K:=.mk j cs v h1 h2 go
theorem ai{i:TI}{σ:Hp}{b o:Nat}{v:AV}{K:Hp→Prop}(j:Nat){cs cs':List AV}(go:K (σ.set j (b,cs')))(h1:σ[j]?=some (b,cs):=by exact rfl)(h2:kQ i cs o v=some cs':=by exact rfl):G1 i σ b o v K:=.mk j cs cs' h1 h2 go
theorem aZ{p q r s X:Prop}(go:X)(h1:p:=by omega)(h2:q:=by omega)(h3:r:=by omega)(h4:s:=by decide):aI (p∧q∧r∧s) X:=.mk ⟨h1,h2,h3,h4⟩ go
theorem aM{p q r X:Prop}(go:X)(h1:p:=by exact rfl)(h2:q:=by omega)(h3:r:=by omega):aI (p∧q∧r) X:=.mk ⟨h1,h2,h3⟩ go
theorem ei{p X:Prop}(go:X)(h1:p:=by omega):aI p X:=.mk h1 go
inductive bL{α:Type}(l:List α)(n:Int)(K:α→Prop):Prop where
 |mk (x:α) (h0:0≤n) (h1:l[n.toNat]?=some x) (go:K x)
def rY(TV:List (Nat×Nat))(cs:List AV):List (Nat×AV)→Option (List AV)
 | []=>some cs
 |(i,v)::r=>match TV[i]?,v.cells? with
  |some (off,size),some vs=>match Nat.beq vs.length size,Nat.ble (off+size) cs.length with | true,true=>rY TV (ga cs off vs) r | _,_=>none
  |_,_=>none
def cM(z:List AV):Nat→List AV
 | 0=>[]
 |n+1=>z++cM z n
section
variable (P:Program) (TT:TypeId→Option TI)
def CE:List (Nat×TypeId)→Option (List (Nat×Nat))
 | []=>some []
 |(off,t)::r=>match TT t,CE r with | some i,some ps=>some ((off,i.size)::ps) | _,_=>none
def Hi(t:TypeId)(parts:List (Nat×AV)):Option AV:=
 match TT t with
 |some ⟨.bh fs,_,_,z⟩=>match CE TT fs with | some ps=>(rY ps z parts).map .agg | none=>none
 |some ⟨.arr n e,_,_,z⟩=>match TT e with | some i=>(rY ((List.range n).map fun j=>(j*i.size,i.size)) z parts).map .agg | none=>none
 |_=>none
def qc(i:TI)(a:AV)(σ:Hp)(K:AV→Prop):Prop:=
 match a with
 |.fV cs=>match ey i cs 0 with | some v=>K v | none=>False
 |.ptr b o=>fE i σ b o K
 |_=>False
def oF(b:Bool)(K:AV→Prop):Prop:=Dr b (K (.bool true)) (K (.bool false))
def Aw(k:TK)(want:Bool)(x y:AV)(K:AV→Prop):Prop:=
 match k,x,y with
 |.ptr _,.cR,.cR=>K (.bool want)
 |.ptr _,.ptr _ _,.cR=>K (.bool !want)
 |.ptr _,.fV _,.cR=>K (.bool !want)
 |.slice _,.aj,.aj=>K (.bool want)
 |.slice _,.ae _ _ _ _,.aj=>K (.bool !want)
 |.slice _,.ia,.aj=>K (.bool !want)
 |.slice _,.af _ l,.aj=>aI (0<l.length) (K (.bool !want))
 |.iface,.nilif,.nilif=>K (.bool want)
 |.iface,.iface _ _,.nilif=>K (.bool !want)
 |.func,.iP,.iP=>K (.bool want)
 |.func,.fn _ _ _,.iP=>K (.bool !want)
 |_,_,_=>False
def SU:Operand→Bool
 |.const _=>true
 |_=>false
def HZ(op:BinOp)(k:IntKind)(a b:Int)(K:AV→Prop):Prop:=
 match op with
 |.add=>K (.int k (k.wrap (a+b)))
 |.sub=>K (.int k (k.wrap (a-b)))
 |.mul=>K (.int k (k.wrap (a*b)))
 |.quo=>aI (b≠0) (K (.int k (k.wrap (a.tdiv b))))
 |.rem=>aI (b≠0) (K (.int k (a.tmod b)))
 |.and | .or | .xor | .andNot=>K (.int k (bits op k a b))
 |.eql=>oF (decide (a=b)) K
 |.neq=>oF (!decide (a=b)) K
 |.lss=>oF (decide (a<b)) K
 |.leq=>oF (decide (a≤b)) K
 |.gtr=>oF (decide (b<a)) K
 |.geq=>oF (decide (b≤a)) K
 |_=>False
def G4(op:BinOp)(k:IntKind)(a b:Int)(K:AV→Prop):Prop:=
 match op with
 |.shl=>aI (0≤b) (K (.int k (k.wrap (a*2 ^ (min b.toNat k.bits)))))
 |.shr=>aI (0≤b) (K (.int k (a.fdiv (2 ^ (min b.toNat k.bits)))))
 |_=>False
def DZ(op:BinOp)(t:TypeId)(y0:Operand)(x y:AV)(K:AV→Prop):Prop:=
 match x,y with
 |.int k a,.int k' b=>match op with
  |.shl | .shr=>G4 op k a b K
  |_=>match decide (k=k') with | true=>HZ op k a b K | false=>False
 |.bool a,.bool b=>match TT t with
  |some ⟨.bool,_,_,_⟩=>(match op with | .eql=>oF (a == b) K | .neq=>oF (!(a == b)) K | _=>False)
  |_=>False
 |.str a,.str b=>match op with | .eql=>oF (a.toList == b.toList) K | .neq=>oF (!(a.toList == b.toList)) K | _=>False
 |x,y=>match SU y0,TT t with
  |true,some i=>(match op with | .eql=>Aw i.k true x y K | .neq=>Aw i.k false x y K | _=>False)
  |_,_=>False
def adZ:AV→AV→Bool
 |.int _ a,.int _ b=>decide (a=b)
 |.bool a,.bool b=>a == b
 |.str a,.str b=>a.toList == b.toList
 |_,_=>false
def tb(xs ys:List AV):List Bool:=List.zipWith adZ xs ys
def gB(l:List Bool):Bool:=l.all id
def H9(TT:TypeId→Option TI)(rec:TypeId→AV→AV→Option (List Bool))(xs ys:List AV):List Field→Option (List Bool)
 | []=>some []
 | f :: fs => match f.name == "_", TT f.type with
  |false,some i=>match ey i xs f.offset,ey i ys f.offset with
   |some a,some b=>match rec f.type a b,H9 TT rec xs ys fs with | some l,some l'=>some (l++l') | _,_=>none
   |_,_=>none
  |_,_=>none
def H8(TT:TypeId→Option TI)(rec:TypeId→AV→AV→Option (List Bool))(e:TypeId)(c:Nat)(xs ys:List AV):List Nat→Option (List Bool)
 | []=>some []
 |k::ks=>match TT e with
  |some i=>match ey i xs (k*c),ey i ys (k*c) with
   |some a,some b=>match rec e a b,H8 TT rec e c xs ys ks with | some l,some l'=>some (l++l') | _,_=>none
   |_,_=>none
  |none=>none
def zy(P:Program)(TT:TypeId→Option TI):Nat→TypeId→AV→AV→Option (List Bool)
 | 0,_,_,_=>none
 |d+1,t,x,y=>match P.underlying t,x,y with
  |some .bool,.bool a,.bool b=>some [a == b]
  |some (.int _),.int k a,.int k' b=>(match decide (k=k') with | true=>some [decide (a=b)] | false=>none)
  |some .string,.str a,.str b=>some [a.toList == b.toList]
  |some (.struct fs),.agg xs,.agg ys=>(match P.stoodInHeld t with | true=>none | false=>H9 TT (zy P TT d) xs ys fs.toList)
  |some (.array n e),.agg xs,.agg ys=>(match TT e with | some _=>H8 TT (zy P TT d) e (P.cellsOf e) xs ys (List.range n) | none=>none)
  |_,_,_=>none
inductive EqAt(P:Program)(TT:TypeId→Option TI)(t:TypeId)(xs ys:List AV)(K:Bool→Prop):Prop where
 |mk (h1:P.eqGuardType P.depth t=false) (h2:zy P TT 8 t (.agg xs) (.agg ys)=some (tb xs ys)) (go:K (gB (tb xs ys))):EqAt P TT t xs ys K
def ij(n:Int):Prop:=n.natAbs<9007199254740992
def MX(op:BinOp)(a b c d:Int)(K:AV→Prop):Prop:=
 match op with
 |.add=>aI (ij (a+c)∧ij (b+d)) (K (.fS (a+c) (b+d)))
 |.sub=>aI (ij (a-c)∧ij (b-d)) (K (.fS (a-c) (b-d)))
 |.mul=>aI ((ij (a*c)∧ij (b*d)∧ij (a*c-b*d))∧ij (a*d)∧ij (b*c)∧ij (a*d+b*c)) (K (.fS (a*c-b*d) (a*d+b*c)))
 |_=>False
def Dn(x y:AV)(K:AV→Prop):Prop:=match x,y with | .gp a,.gp b=>K (.fS a b) | _,_=>False
def C7(x:AV)(K:AV→Prop):Prop:=match x with | .fS a _=>K (.gp a) | _=>False
def Dd(x:AV)(K:AV→Prop):Prop:=match x with | .fS _ b=>K (.gp b) | _=>False
def D1(P:Program)(TT:TypeId→Option TI)(op:BinOp)(t:TypeId)(y0:Operand)(x y:AV)(K:AV→Prop):Prop:=
 match x,y with
 |.agg xs,.agg ys=>match op with
  |.eql=>EqAt P TT t xs ys fun b=>oF b K
  |.neq=>EqAt P TT t xs ys fun b=>oF (!b) K
  |_=>False
 |.fS a b,.fS c d=>MX op a b c d K
 |x,y=>DZ TT op t y0 x y K
def D6(op:UnOp)(x:AV)(K:AV→Prop):Prop:=
 match op,x with
 |.not,.bool b=>K (.bool !b)
 |.neg,.int k n=>K (.int k (k.wrap (0-n)))
 |.xor,.int k n=>K (.int k (bits .xor k (if k.signed then -1 else k.max) n))
 |.neg,.gp n=>K (.gp (-n))
 |_,_=>False
def Dp(s d:TypeId)(x:AV)(K:AV→Prop):Prop:=
 match TT s,TT d,x with
 |some _,some ⟨.int k,_,_,_⟩,.int _ n=>K (.int k (k.wrap n))
 |some _,some ⟨.gp,_,_,_⟩,.int _ n=>aI (ij n) (K (.gp n))
 |some _,some ⟨.int k,_,_,_⟩,.gp n=>aI (k.min≤n∧n≤k.max) (K (.int k n))
 |_,_,_=>False
def s8:Option AV→Option Int
 |none=>some 0
 |some (.int _ n)=>some n
 |_=>none
def AD(len:Nat):Option AV→Option Int
 |none=>some len
 |some (.int _ n)=>some n
 |_=>none
def Ah(t:TypeId)(x:AV)(lo hi mx:Option AV)(K:AV→Prop):Prop:=
 match TT t,mx with
 |some ⟨.slice e,_,_,_⟩,none=>match TT e,x with
  |some i,.ae b off len es=>match s8 lo,AD len hi with
   |some l,some h=>aI (0≤l∧l≤h∧h≤len∧i.size=es) (K (.ae b (off+l.toNat*es) (h.toNat-l.toNat) es))
   |_,_=>False
  |some i,.af s xs=>match s8 lo,AD xs.length hi with
   |some l,some h=>aI (0≤l∧l≤h∧h≤xs.length∧i.size=s.size) (K (.af s ((xs.drop l.toNat).take (h.toNat-l.toNat))))
   |_,_=>False
  |some _,.aj=>match s8 lo,AD 0 hi with
   |some l,some h=>aI (0≤l∧l≤h∧h≤(0:Nat)) (K .aj)
   |_,_=>False
  |_,_=>False
 |some ⟨.slice e,_,_,_⟩,some (.int _ m)=>match TT e,x,hi with
  |some i,.ae b off len es,some (.int _ h)=>match s8 lo with
   |some l=>aI (0≤l∧l≤h∧h≤m∧m≤len∧i.size=es) (K (.ae b (off+l.toNat*es) (h.toNat-l.toNat) es))
   |_=>False
  |_,_,_=>False
 |_,_=>False
def BW(t:TypeId)(x ix:AV)(K:AV→Prop):Prop:=
 match TT t,ix with
 |some ⟨.slice e,_,_,_⟩,.int _ n=>match TT e,x with
  |some i,.af s l=>aI (i.size=s.size) (bL l n fun d=>K (.fV (s.cells d)))
  |some i,.ae b off len es=>aI (i.size=es∧0≤n∧n<len) (K (.ptr b (off+n.toNat*es)))
  |_,_=>False
 |some ⟨.arr m e,_,_,_⟩,.int _ n=>match TT e,x with
  |some i,.ptr b o=>aI (0≤n∧n<m) (K (.ptr b (o+n.toNat*i.size)))
  |some i,.fV cs=>aI (0≤n∧n<m) (K (.fV (cs.drop (n.toNat*i.size))))
  |_,_=>False
 |_,_=>False
def getM:List (Int×Int)→Int→Option Int
 | [],_=>none
 |p::l,n=>if p.1=n then some p.2 else getM l n
def rf:List (Int×Int)→Int→Int→List (Int×Int)
 | [],n,x=>[(n,x)]
 |p::l,n,x=>if p.1=n then (n,x)::l else p::rf l n x
inductive HR(σ:Hp)(m:AV)(K:Nat→Nat→List (Int×Int)→Prop):Prop where
 |mk (j b:Nat) (l:List (Int×Int)) (hm:m=.nA b) (h1:σ[j]?=some (b,[.oq l])) (go:K j b l):HR σ m K
def AU(t:TypeId):Option Int:=match TT t with
 |some ⟨.map k e,_,_,_⟩=>(match TT k,TT e with | some ⟨.int .i64,_,_,_⟩,some ⟨.int .i64,_,_,[.int .i64 z]⟩=>some z | _,_=>none)
 |_=>none
def CJ(t:TypeId)(m k:AV)(c:Bool)(σ:Hp)(K:AV→Prop):Prop:=
 match AU TT t,k with
 |some z,.int .i64 n=>HR σ m fun _ _ l=>(match c with | true=>K (.tup [.int .i64 ((getM l n).getD z),.bool (getM l n).isSome]) | false=>K (.int .i64 ((getM l n).getD z)))
 |_,_=>False
def BZ(s:TypeId)(x:AV)(f:Nat)(K:AV→Prop):Prop:=
 match TT s with
 |some ⟨.bh fs,_,_,_⟩=>match fs[f]? with
  |some (off,t)=>match TT t with
   |some i=>match Nat.blt 0 i.size,x with
    |true,.ptr b o=>K (.ptr b (o+off))
    |true,.fV cs=>K (.fV (cs.drop off))
    |_,_=>False
   |none=>False
  |none=>False
 |_=>False
def C0(s:TypeId)(x:AV)(f:Nat)(K:AV→Prop):Prop:=
 match TT s,x with
 |some ⟨.bh fs,_,_,_⟩,.agg cs=>match fs[f]? with
  |some (off,t)=>match TT t with | some i=>(match ey i cs off with | some v=>K v | none=>False) | none=>False
  |none=>False
 |_,_=>False
def DG(k:TK)(x:AV)(K:AV→Prop):Prop:=
 match k,x with
 |.slice _,.af _ l=>K (.int .i64 l.length)
 |.slice _,.ae _ _ len _=>K (.int .i64 len)
 |.slice _,.aj=>K (.int .i64 0)
 |.slice _,.kB=>K (.int .i64 0)
 |.slice _,.ia=>K (.int .i64 0)
 |_,_=>False
def DY(k:TK)(x:AV)(K:AV→Prop):Prop:=
 match k,x with
 |.slice _,.aj=>K (.int .i64 0)
 |.slice _,.kB=>K (.int .i64 0)
 |_,_=>False
def DC(xs:List AV)(K:AV→Prop):Prop:=
 match xs with
 | [.int k a,.int k' b]=>match decide (k=k') with | true=>K (.int k (if b<a then b else a)) | false=>False
 |_=>False
def DD(xs:List AV)(K:AV→Prop):Prop:=
 match xs with
 | [.int k a,.int k' b]=>match decide (k=k') with | true=>K (.int k (if a<b then b else a)) | false=>False
 |_=>False
def AheadOk(t:TypeId)(m:String):Prop:=∀(a:Addr) (w:World),(nilAhead (P.types.size+Made.depth) t (.pointer (some a)) m).run P w=.ok (some false) w
inductive fi(t:TypeId)(m:String)(X:Prop):Prop where
 |mk (h:AheadOk P t m) (go:X):fi t m X
def fI(op:Op)(ρ:Operand→AV)(σ:Hp)(K:AV→Prop):Prop:=
 match op with
 |.move x | .assign x=>strict (ρ x) K
 |.pick c a b=>match ρ c with | .bool x=>(match x with | true=>strict (ρ a) K | false=>strict (ρ b) K) | _=>False
 |.build t parts=>match Hi TT t (parts.toList.map fun p=>(p.1,ρ p.2)) with | some v=>K v | none=>False
 |.load t a=>match TT t with | some i=>qc i (ρ a) σ K | none=>False
 |.nilCheck x=>match ρ x with | .ptr b o=>K (.ptr b o) | .fV cs=>K (.fV cs) | .fn (.func f) a c=>K (.fn (.func f) a c) | .fn (.method m) [.iface t (.ptr b o)] c=>fi P t m (K (.fn (.method m) [.iface t (.ptr b o)] c)) | .iface t v=>K (.iface t v) | _=>False
 |.binOp op t x y _=>D1 P TT op t y (bQ (ρ x)) (bQ (ρ y)) K
 |.unOp op _ x=>D6 op (ρ x) K
 |.convert s d x=>Dp TT s d (ρ x) K
 |.makeInterface t x=>match TT t with | some ⟨.iface,_,_,_⟩=>False | some _=>K (.iface t (ρ x)) | none=>False
 |.makeFunc f first cap=>K (.fn f (first.toList.map ρ) (cap.toList.map ρ))
 |.slice t x lo hi mx=>Ah TT t (bQ (ρ x)) (lo.map fun x=>bQ (ρ x)) (hi.map fun x=>bQ (ρ x)) (mx.map fun x=>bQ (ρ x)) K
 |.fieldAddr s x f=>BZ TT s (ρ x) f K
 |.field s x f=>C0 TT s (ρ x) f K
 |.indexAddr t x ix=>BW TT t (bQ (ρ x)) (bQ (ρ ix)) K
 |.typeAssert x _ t ok=>match ok,TT t,ρ x with
  |true,some ⟨.ptr _,_,_,[.cR]⟩,.iface t' v=>(match Nat.beq t' t with | true=>K (.tup [v,.bool true]) | false=>K (.tup [.cR,.bool false]))
  |true,some ⟨.ptr _,_,_,[.cR]⟩,.nilif=>K (.tup [.cR,.bool false])
  |_,_,_=>False
 |.lookup t m k c=>CJ TT t (bQ (ρ m)) (bQ (ρ k)) c σ K
 |.extract x i=>match ρ x with | .tup vs=>(match vs[i]? with | some v=>K v | none=>False) | _=>False
 |.call ⟨.builtin .len,args,cz⟩=>match args.toList,cz.toList with | [x],[t]=>(match TT t with | some i=>DG i.k (bQ (ρ x)) K | none=>False) | _,_=>False
 |.call ⟨.builtin .min,args,_⟩=>match args.toList with | [x,y]=>DC [ρ x,ρ y] K | _=>False
 |.call ⟨.builtin .max,args,_⟩=>match args.toList with | [x,y]=>DD [ρ x,ρ y] K | _=>False
 |.call ⟨.builtin .complex,args,_⟩=>match args.toList with | [x,y]=>Dn (ρ x) (ρ y) K | _=>False
 |.call ⟨.builtin .real,args,_⟩=>match args.toList with | [x]=>C7 (ρ x) K | _=>False
 |.call ⟨.builtin .imag,args,_⟩=>match args.toList with | [x]=>Dd (ρ x) K | _=>False
 |.call ⟨.builtin .cap,args,cz⟩=>match args.toList,cz.toList with | [x],[t]=>(match TT t with | some i=>DY i.k (bQ (ρ x)) K | none=>False) | _,_=>False
 |_=>False
end
end Go.Proofs.YtnikdflhefijbaaGreat
