import Derived.Below
import Derived.BigQuiet
import Derived.Carry
import Derived.ChangeOld
import Derived.Deep.OwnRows
import Derived.Deep.QuietTactic
import Derived.Deep.Slices
import Derived.Handy
import Derived.Maps.AppendAt
import Derived.OpenShut
import Derived.ProofKit
import Derived.ShutString
import Derived.Stop.IfaceNil
import Derived.Test.YtnikdflhefijbaaGreatRows
import Derived.WalkKit
import Derived.WalkLawsBesides
import Derived.WalkSpells
import Derived.Laws.ComplexArith
import Derived.RangeFuncRecord
import Derived.MapFrom
namespace Go.Proofs.YtnikdflhefijbaaGreat
open Go.RowKit
abbrev aZ:= @List.getD_eq_getElem?_getD
abbrev bh:= @List.getElem?_eq_getElem
abbrev ck:= @List.getElem?_eq_some_iff
abbrev bB:= @List.mem_singleton
abbrev ag:= @if_neg
abbrev cx:= @List.mem_of_getElem?
abbrev bC:= @Int.toNat_natCast
abbrev ah:= @if_pos
abbrev aT:= @decide_eq_true
abbrev bZ:= @List.length_append
abbrev ff:= @List.take_succ_eq_append_getElem
abbrev cI:= @Nat.le_of_ble_eq_true
abbrev bP:= @List.getElem_mem
abbrev bO:= @Bool.and_eq_true
abbrev cj:= @List.mem_cons_self
abbrev bS:= @decide_eq_false
abbrev ek:= @List.take_of_length_le
abbrev bV:= @List.mem_append
abbrev dp:= @List.mem_cons_of_mem
abbrev a8:= @Nat.le_refl
abbrev cg:= @List.length_map
abbrev bA:= @Nat.zero_le
abbrev cR:= @List.length_set
abbrev iE:= @List.length_eq_zero_iff
abbrev cW:= @List.map_append
abbrev im:= @Array.getD_eq_getD_getElem?
abbrev dU:= @List.append_assoc
abbrev jb:= @List.getElem?_append_right
abbrev gl:= @List.length_replicate
abbrev fm:= @List.getElem?_map
abbrev fk:= @of_decide_eq_true
abbrev fj:= @List.getElem?_set
abbrev gY:= @List.mem_append_left
abbrev ky:= @List.getElem?_append_left
abbrev fA:= @List.take_length
abbrev fK:= @List.all_eq_true
abbrev dR:= @Nat.zero_add
abbrev eB:= @List.mem_cons
abbrev eH:= @Nat.le_trans
abbrev jN:= @Nat.eq_of_beq_eq_true
abbrev dT:= @List.mem_map
abbrev gz:= @List.drop_zero
abbrev jM:= @List.mem_append_right
abbrev gy:= @List.mem_range
abbrev ma:= @Int.toNat_of_nonneg
abbrev ik:= @List.length_cons
abbrev eA:= @Nat.mul_one
abbrev mH:= @Int.eq_ofNat_of_zero_le
abbrev lI:= @Nat.mul_le_mul_right
abbrev qh:= @List.mem_or_eq_of_mem_set
abbrev qg:= @Array.getElem?_eq_getElem
abbrev kS:= @List.length_range
abbrev mG:= @List.length_pos_iff
abbrev l9:= @Bool.false_eq_true
abbrev lH:= @Bool.not_eq_true'
abbrev nj:= @of_decide_eq_false
abbrev pt:= @List.nodup_append
abbrev mF:= @List.any_eq_true
abbrev re:= @List.mem_iff_getElem?
abbrev uO:= @Int.tmod_eq_emod_of_nonneg
abbrev mE:= @List.nodup_cons
abbrev ni:= @List.append_nil
abbrev wV:= @List.getElem?_replicate
abbrev tp:= @List.length_singleton
abbrev uN:= @List.getElem?_eq_none
abbrev oh:= @List.perm_middle
abbrev og:= @Nat.not_lt_zero
abbrev oe:= @List.mem_filter
abbrev jL:= @Int.le_refl
abbrev qf:= @List.size_toArray
abbrev pr:= @List.mem_flatten
abbrev rb:= @List.getElem?_take
abbrev oc:= @List.map_set
abbrev tk:= @List.range_succ
abbrev sl:= @Nat.lt_of_lt_of_le
abbrev Gg:= @List.length_filter_le
abbrev tg:= @List.length_reverse
abbrev tf:= @List.getElem?_range
abbrev sk:= @List.length_take
abbrev As:= @List.ext_getElem
abbrev uM:= @Nat.pow_le_pow_right
abbrev uL:= @List.mem_iff_getElem
abbrev wU:= @Option.map_eq_some_iff
abbrev wT:= @Nat.testBit_lt_two_pow
abbrev Ar:= @List.eq_of_mem_replicate
abbrev yz:= @List.flatMap_append
abbrev ra:= @Bool.or_eq_true
abbrev pq:= @List.map_cons
abbrev po:= @Bool.false_or
abbrev Aq:= @Array.getElem?_eq_some_iff
abbrev uK:= @Nat.eq_zero_or_pos
abbrev wS:= @List.map_congr_left
abbrev qe:= @Nat.succ_mul
abbrev qd:= @Nat.sub_self
abbrev KO:= @Nat.ble_eq_true_of_le
abbrev Ap:= @List.getElem?_toArray
abbrev uJ:= @List.foldl_append
abbrev uI:= @Nat.mod_eq_of_lt
abbrev CD:= @Int.tdiv_eq_ediv_of_nonneg
abbrev KN:= @Array.getElem?_append_left
abbrev Gf:= @List.length_pos_of_mem
abbrev ob:= @Nat.mod_lt
abbrev KM:= @List.replicate_succ
abbrev yy:= @List.flatMap_cons
abbrev CC:= @Array.toList_append
abbrev CB:= @List.take_append_drop
abbrev KL:= @List.set_append_right
abbrev uH:= @List.nil_append
abbrev uG:= @Int.natCast_add
abbrev yx:= @Nat.lt_of_le_of_lt
abbrev Ao:= @List.getElem?_drop
abbrev An:= @List.filter_append
abbrev qc:= @Nat.add_mul
abbrev te:= @Nat.pow_zero
abbrev uF:= @Nat.mul_le_mul
abbrev yw:= @List.mem_reverse
abbrev CA:= @List.filter_cons
abbrev Cz:= @Array.getElem?_toList
abbrev sj:= @Nat.pow_add
abbrev Cy:= @Nat.eq_of_testBit_eq
abbrev Am:= @List.ext_getElem?
abbrev KK:= @Array.getElem?_setIfInBounds_ne
abbrev KJ:= @List.eq_nil_iff_forall_not_mem
abbrev KI:= @Array.eq_empty_of_size_eq_zero
abbrev gm4:= @List.flatten_append
abbrev wR:= @Bool.true_and
abbrev KH:= @List.take_append_of_le_length
abbrev Al:= @List.not_mem_nil
abbrev KG:= @List.getElem_replicate
abbrev Ge:= @List.drop_of_length_le
abbrev Gd:= @Array.size_eq_zero_iff
abbrev Cx:= @Nat.lt_or_eq_of_le
abbrev Cw:= @List.pairwise_cons
abbrev Cv:= @Bool.false_ne_true
abbrev KF:= @Nat.testBit_two_pow_sub_one
abbrev wQ:= @Nat.lt_or_ge
abbrev wP:= @Nat.le_of_eq
abbrev wO:= @Nat.add_zero
abbrev Gc:= @List.eq_nil_or_concat
abbrev Cu:= @Nat.le_of_lt_succ
abbrev Gb:= @Nat.add_assoc
abbrev Ct:= @List.pairwise_map
abbrev go2:= @List.flatten_cons
abbrev Cs:= @List.any_eq_false
abbrev Ga:= @List.getElem?_of_mem
abbrev KE:= @List.drop_eq_getElem_cons
abbrev Cr:= @List.getElem_map
abbrev F9:= @List.length_zipWith
abbrev PM:= @Array.length_toList
abbrev yv:= @Nat.zero_mul
abbrev yu:= @Nat.beq_refl
abbrev Cq:= @Nat.two_pow_pos
abbrev KD:= @Nat.testBit_mod_two_pow
abbrev KC:= @Nat.add_sub_cancel_left
abbrev gp4:= @Nat.add_sub_cancel
abbrev F8:= @List.getElem_range
abbrev gp6:= @List.filter_cons_of_neg
abbrev F7:= @Bool.eq_false_iff
abbrev PL:= @List.nodup_nil
abbrev PK:= @Nat.and_two_pow_sub_one_eq_mod
abbrev KB:= @Array.getElem?_modify
abbrev F6:= @Option.getD_some
abbrev F5:= @List.getElem_set
abbrev PJ:= @List.drop_append_of_le_length
abbrev F4:= @List.cons_append
abbrev KA:= @List.pairwise_append
abbrev Cp:= @Nat.mul_assoc
abbrev PI:= @List.mem_zipIdx_iff_getElem?
abbrev PH:= @Nat.two_pow_add_eq_or_of_lt
abbrev PG:= @Nat.testBit_two_pow_mul_add
abbrev Kz:= @Nat.pos_iff_ne_zero
abbrev Ky:= @Nat.min_eq_left
abbrev FZ:= @Nat.log2_eq_iff
abbrev FY:= @Nat.and_le_left
abbrev FX:= @List.all_append
abbrev FV:= @Int.natCast_mul
abbrev Co:= @Nat.mul_comm
abbrev Kx:= @List.singleton_inj
abbrev Kw:= @Int.tmod_lt_of_pos
abbrev Kv:= @Int.natCast_nonneg
abbrev Ku:= @Int.natAbs_natCast
abbrev Kt:= @Int.emod_lt_of_pos
abbrev Ks:= @Bool.not_eq_false'
abbrev PF:= @List.pairwise_iff_getElem
abbrev FU:= @List.drop_drop
abbrev FT:= @List.count_nil
abbrev PE:= @Int.mul_neg_of_neg_of_pos
abbrev Kr:= @Nat.or_lt_two_pow
abbrev Kq:= @List.getElem_take
abbrev gs9:= @List.filter_cons_of_pos
abbrev FR:= @Bool.not_true
abbrev PD:= @Nat.lt_succ_self
abbrev Kp:= @Nat.le_add_right
abbrev Ko:= @List.countP_cons
abbrev Kn:= @Option.map_some
abbrev Km:= @Nat.testBit_and
abbrev FQ:= @Nat.lt_trans
abbrev PC:= @List.perm_append_comm
abbrev Kl:= @List.map_map
abbrev Kk:= @List.map_const'
abbrev PB:= @List.length_mergeSort
abbrev Kj:= @List.foldl_cons
abbrev gu2:= @List.filter_nil
abbrev gu3:= @List.any_append
abbrev Ki:= @Int.natAbs_zero
abbrev FP:= @Int.lt_or_le
abbrev Kh:= @Int.emod_nonneg
abbrev gu7:= @Bool.beq_eq_decide_eq
abbrev Cn:= @Int.not_lt
abbrev PA:= @List.mem_erase_of_ne
abbrev Pz:= @List.getElem_zipWith
abbrev Py:= @List.eraseIdx_set_eq
abbrev Kg:= @Nat.testBit_or
abbrev Kf:= @Int.natAbs_mul
abbrev Ke:= @Bool.false_and
abbrev Kd:= @Bool.and_false
abbrev Px:= @Nat.testBit_two_pow
abbrev Pw:= @List.mem_map_of_mem
abbrev Pv:= @List.map_eq_flatMap
abbrev gv9:= @List.filter_eq_self
abbrev Kc:= @Nat.lt_irrefl
abbrev Kb:= @List.sum_cons
abbrev Pu:= @List.mem_replicate
abbrev Ka:= @Bool.and_true
theorem tW{w:World}{k:Nat}{o:Obj}(h:w.heap[k]?=some o):k<w.heap.size:=(Aq.1 h).1
theorem HU{w:World}{k i:Nat}{c:Array Value}{t:TypeId}{fz:Nat×Nat}(h:w.heap[k]?=some (.cells c t fz)):w.cell? ⟨k,i,none⟩=c[i]?:=by simp[World.cell?,h]
theorem xp(w:World)(o:Obj):(w.alloc o).heap[w.heap.size]?=some o:=heap_alloc_new w o
end Go.Proofs.YtnikdflhefijbaaGreat
namespace Go.Proofs.YtnikdflhefijbaaGreat
open Go.RowKit Go.ChangeShapes Go.WideShapes Go.ChangeAt Go.Deep
inductive Sh where
 |int (k:IntKind)
 |bool
 |str
 |slice (e:Sh)
 |nil
 |field (f r:Sh)
def Sh.size:Sh→Nat
 |.int _=>1
 |.bool=>1
 |.str=>1
 |.slice _=>1
 |.nil=>0
 |.field f r=>f.size+r.size
def Sh.T:Sh→Type
 |.int _=>Int
 |.bool=>Bool
 |.str=>ByteArray
 |.slice e=>List e.T
 |.nil=>Unit
 |.field f r=>f.T×r.T
def Sh.Oa:(s:Sh)→s.T
 |.int _=>(0:Int)
 |.bool=>false
 |.str=>ByteArray.empty
 |.slice _=>[]
 |.nil=>()
 |.field f r=>(f.Oa,r.Oa)
def vY(w:World)(b o:Nat)(cs:List Value):Prop:=∀j u,cs[j]?=some u→w.cell? ⟨b,o+j,none⟩=some u
def Reads(w:World):(s:Sh)→List Value→s.T→Prop
 |.int k,cs,(n:Int)=>cs=[.int k n]∧(Lit.int k n).wf=true
 |.bool,cs,(b:Bool)=>cs=[.bool b]
 |.str,cs,(s:ByteArray)=>cs=[.string s]∧s.size≤maxLen
 |.slice e,cs,(l:List e.T)=>∃(a:Option Addr) (c:Nat),cs=[.slice a l.length c]∧l.length≤c∧c≤maxLen∧(a=none→c=0)∧
   (l≠[]→∃b o,a=some ⟨b,o,none⟩∧∀i,(h:i<l.length)→∃cs',cs'.length=e.size∧vY w b (o+i*e.size) cs'∧Reads w e cs' l[i])
 |.nil,cs,_=>cs=[]
 |.field f r,cs,(d:f.T×r.T)=>∃c1 c2,cs=c1++c2∧c1.length=f.size∧Reads w f c1 d.1∧Reads w r c2 d.2
def Sh.fit(P:Program):Sh→Sum TypeId (List Field×Nat)→Bool
 |.int k,.inl t=>match P.underlying t with | some (.int k')=>decide (k=k') | _=>false
 |.bool,.inl t=>match P.underlying t with | some .bool=>true | _=>false
 |.str,.inl t=>match P.underlying t with | some .string=>true | _=>false
 |.slice e,.inl t=>match P.underlying t with | some (.slice e')=>e.fit P (.inl e')&&decide (P.cellsOf e'=e.size)&&decide (0<e.size) | _=>false
 |.nil,.inr ([],_)=>true
 |.nil,.inl t=>match P.underlying t with | some (.struct fs)=>fs.toList.isEmpty&&decide (P.cellsOf t=0) | _=>false
 |.field f r,.inr (f0::fs,off)=>decide (f0.offset=off)&&decide (P.cellsOf f0.type=f.size)&&f.fit P (.inl f0.type)&&r.fit P (.inr (fs,off+f.size))
 |.field f r,.inl t=>match P.underlying t with
  |some (.struct fs)=>match fs.toList with
   |f0::Gh=>decide (P.cellsOf t=f.size+r.size)&&(decide (f0.offset=0)&&decide (P.cellsOf f0.type=f.size)&&f.fit P (.inl f0.type)&&r.fit P (.inr (Gh,f.size)))
   | []=>false
  |_=>false
 |_,_=>false
theorem zQ{a b:Bool}(h:(a&&b)=true):a=true∧b=true:=by simpa using h
theorem vY.spot{w:World}{a:Addr}{n:Nat}{cs:List Value}(hn:0<n)(hl:cs.length=n)(h:∀i,i<n→w.cell? (a.add i)=cs[i]?):a.spot=none:=by
 have h0:=h 0 hn
 rw[bh (by omega)]at h0
 exact World.cell?_spot h0
theorem abK{H:Type}{enc:TypeId×Value→H}{P:Program}{w:World}{base:Nat}{spare:Nat→Bool}{held:Bool}(s:Sh):
  (∀(t:TypeId) (fuel:Nat) (cs:List Value) (x:DataW H×List MemPlace),s.fit P (.inl t)=true→DataW.trod enc P w base spare held fuel t cs=some x→cs.length=s.size∧∃d,Reads w s cs d)∧
  (∀(fs:List Field) (off n:Nat) (cs:List Value),s.fit P (.inr (fs,off))=true→cs.length=off+s.size→
   (∀(i:Nat) (f:Field),fs[i]?=some f→∃x,DataW.trod enc P w base spare held n f.type ((cs.drop f.offset).take (P.cellsOf f.type))=some x)→∃d,Reads w s (cs.drop off) d):=by
 induction s with
 |int k=>
  refine⟨fun t fuel cs x hf h=>?_,fun fs off n cs hf=>by simp[Sh.fit]at hf⟩
  unfold Sh.fit at hf
  split at hf
  ·rename_i k' hk
   have:=fk hf
   subst this
   obtain⟨n,rfl,_,hw⟩:=DataW.trod_int hk h
   exact⟨rfl,n,rfl,hw⟩
  ·cases hf
 |bool=>
  refine⟨fun t fuel cs x hf h=>?_,fun fs off n cs hf=>by simp[Sh.fit]at hf⟩
  unfold Sh.fit at hf
  split at hf
  ·rename_i hk
   obtain⟨b,rfl,_⟩:=DataW.trod_bool hk h
   exact⟨rfl,b,rfl⟩
  ·cases hf
 |str=>
  refine⟨fun t fuel cs x hf h=>?_,fun fs off n cs hf=>by simp[Sh.fit]at hf⟩
  unfold Sh.fit at hf
  split at hf
  ·rename_i hk
   obtain⟨b,rfl,_,hb⟩:=DataW.trod_string hk h
   exact⟨rfl,b,rfl,hb⟩
  ·cases hf
 |slice e ih=>
  refine⟨fun t fuel cs x hf h=>?_,fun fs off n cs hf=>by simp[Sh.fit]at hf⟩
  unfold Sh.fit at hf
  split at hf
  ·rename_i e' hk
   obtain⟨ja,h0⟩:=zQ hf
   obtain⟨wF,eF⟩:=zQ ja
   have eF:=fk eF
   have h0:=fk h0
   rcases open_slice hk h with ⟨rfl,_⟩ | ⟨a,len,cap,m,n,D,Pl,rfl,hb,hl,hm,hmm,_,hi⟩
   ·exact⟨rfl,[],none,0,rfl,Nat.le_refl _,by simp,fun _=>rfl,fun aX=>absurd rfl aX⟩
   ·have hlm:len≤m:=by rw[hmm];split <;> omega
    have OV:∀i,i<len→∃(y:List Value×e.T),y.1.length=e.size∧w.cells? base (a.add (i*e.size)) e.size=some y.1∧Reads w e y.1 y.2:=by
     intro i pf
     obtain⟨cs',h1,h2⟩:=hi i (by omega)
     obtain⟨h3,d,h4⟩:=ih.1 e' n cs' _ wF h2
     rw[eF]at h1
     exact⟨(cs',d),h3,h1,h4⟩
    obtain⟨V,hV⟩:= @choose_lt _ ⟨([],e.Oa)⟩ _ _ OV
    refine⟨rfl,(List.range len).map (fun i=>(V i).2),some a,cap,by simp,by simpa using hl,hm,(fun e=>by cases e),fun aX=>?_⟩
    have uf:0<len:=by
     rcases uK len with h | h
     ·subst h;exact absurd rfl aX
     ·exact h
    obtain⟨b,o,spot⟩:=a
    have ah8:spot=none:=by
     obtain⟨q1,q2,_⟩:=hV 0 uf
     obtain⟨_,q4,q5⟩:=World.cells?_some q2
     have:=vY.spot (a:=(⟨b,o,spot⟩:Addr).add (0*e.size)) h0 q4 q5
     unfold Addr.add at this
     split at this <;> simp_all
    subst ah8
    refine⟨b,o,rfl,fun i hi=>?_⟩
    have fe:i<len:=by simpa using hi
    obtain⟨q1,q2,q3⟩:=hV i fe
    obtain⟨_,q4,q5⟩:=World.cells?_some q2
    refine⟨(V i).1,q1,fun j u hu=>?_,by simpa using q3⟩
    have hj:j<e.size:=by have:=(ck.1 hu).1;omega
    have:=q5 j hj
    rw[Addr.add_lit,Addr.add_lit]at this
    rw[this,hu]
  ·cases hf
 |nil=>
  refine⟨fun t fuel cs x hf h=>?_,fun fs off n cs hf hl _=>?_⟩
  ·unfold Sh.fit at hf
   split at hf
   ·rename_i fs hk
    obtain⟨_,hz⟩:=zQ hf
    have hz:=fk hz
    obtain⟨xs,n,_,_,hlen,_⟩:=DataW.trod_struct hk h
    have:cs=[]:=iE.1 (by omega)
    exact⟨by simp[this,Sh.size],(),this⟩
   ·cases hf
  ·exact⟨(),List.drop_eq_nil_of_le (by simp[Sh.size]at hl;omega)⟩
 |field f r qS jZ=>
  have key:∀(f0:Field) (fs:List Field) (off n:Nat) (cs:List Value),
    (decide (f0.offset=off)&&decide (P.cellsOf f0.type=f.size)&&f.fit P (.inl f0.type)&&r.fit P (.inr (fs,off+f.size)))=true→cs.length=off+(f.size+r.size)→
    (∀(i:Nat) (g:Field),(f0::fs)[i]?=some g→∃x,DataW.trod enc P w base spare held n g.type ((cs.drop g.offset).take (P.cellsOf g.type))=some x)→∃d,Reads w (.field f r) (cs.drop off) d:=by
   intro f0 fs off n cs hf hl hx
   obtain⟨ja,hr⟩:=zQ hf
   obtain⟨wF,hff⟩:=zQ ja
   obtain⟨ho,hc⟩:=zQ wF
   have ho:=fk ho
   have hc:=fk hc
   obtain⟨x,B3⟩:=hx 0 f0 rfl
   obtain⟨yi,d1,wH⟩:=qS.1 _ _ _ _ hff B3
   obtain⟨d2,n9⟩:=jZ.2 fs (off+f.size) n cs hr (by omega) (fun i g hg=>hx (i+1) g (by simpa using hg))
   refine⟨(d1,d2),(cs.drop f0.offset).take (P.cellsOf f0.type),cs.drop (off+f.size),?_,yi,wH,n9⟩
   rw[ho,hc,← FU,CB]
  refine⟨fun t fuel cs x hf h=>?_,fun fs off n cs hf hl hx=>?_⟩
  ·unfold Sh.fit at hf
   split at hf
   ·rename_i fs hk
    split at hf
    ·rename_i f0 Gh Ae
     obtain⟨hz,hf'⟩:=zQ hf
     have hz:=fk hz
     obtain⟨xs,n,_,_,hlen,OC,hg⟩:=DataW.trod_struct hk h
     have hl:cs.length=0+(f.size+r.size):=by omega
     obtain⟨d,hd⟩:=key f0 Gh 0 n cs (by simpa using hf') hl (fun i g hig=>by
      have hi:fs[i]?=some g:=by rw[← Cz,Ae];exact hig
      have:=hg i g hi
      have Ad:i<xs.length:=by rw[OC];exact (Aq.1 hi).1
      exact⟨xs[i],by rw[this];exact bh Ad⟩)
     exact⟨by simpa [Sh.size]using hl,d,by simpa using hd⟩
    ·cases hf
   ·cases hf
  ·cases fs with
   |nil=>simp[Sh.fit]at hf
   |cons f0 Gh=>exact key f0 Gh off n cs (by simpa [Sh.fit]using hf) (by simpa [Sh.size]using hl) hx
theorem RN{H:Type}{enc:TypeId×Value→H}{P:Program}{w:World}{base:Nat}{spare:Nat→Bool}{held:Bool}{t:TypeId}{v:Value}{d:DataW H}{p:List MemPlace}(s:Sh)(hs:s.fit P (.inl t)=true)
  (h:DataW.Trod enc P w base spare held t v d p):∃x:s.T,Reads w s v.cells.toList x:=by
 obtain⟨fuel,hf⟩:=h
 exact ((abK s).1 t fuel _ _ hs hf).2
theorem wf_u64{n:Int}(h:(Lit.int .u64 n).wf=true):0≤n∧n<18446744073709551616:=by
 have:=bounds_u64 h
 omega
inductive AV where
 |int (k:IntKind) (n:Int)
 |bool (b:Bool)
 |str (s:ByteArray)
 |ae (e:Sh) (l:List e.T)
 |kI
 |gQ
 |ai
 |af (b off len e:Nat)
 |cY
 |ptr (b off:Nat)
 |gi (cs:List AV)
 |agg (cs:List AV)
 |tup (vs:List AV)
 |iface (t:TypeId) (v:AV)
 |nilif
 |fn (f:Fn) (first cap:List AV)
 |iT
 |pR
 |gA (n:Int)
 |gb (n m:Int)
 |any
 |via (v:AV)
 |nJ (b:Nat)
 |oP (l:List (Int×Int))
 |nT (b:Nat)
 |sK (m c:Nat) (seen:List Nat)
 |mP (L:Loop) (t:Nat→AV)
abbrev Hp:Type:=List (Nat×List AV)
abbrev Tm:Type:=Nat→AV
def Sh.cells:(s:Sh)→s.T→List AV
 |.int k,(n:Int)=>[.int k n]
 |.bool,(b:Bool)=>[.bool b]
 |.str,(s:ByteArray)=>[.str s]
 |.slice e,(l:List e.T)=>[.ae e l]
 |.nil,_=>[]
 |.field f r,(d:f.T×r.T)=>f.cells d.1++r.cells d.2
def AV.leaf:AV→Bool
 |.agg _ | .tup _ | .any | .oP _ | .sK _ _ _ | .mP _ _=>false
 |_=>true
def AV.cells?:AV→Option (List AV)
 |.agg cs=>some cs
 |.tup _ | .any | .oP _ | .sK _ _ _ | .mP _ _=>none
 |v=>some [v]
inductive TK where
 |int (k:IntKind) | bool | str | slice (e:TypeId) | ptr (e:TypeId) | bj (fs:List (Nat×TypeId)) | arr (n:Nat) (e:TypeId) | iface | func | map (k e:TypeId) | gA | gb | other
structure TI where
 k:TK
 size:Nat
 bytes:Nat
 zero:List AV
def TI.wide(i:TI):Bool:=match i.k with | .bj _ | .arr _ _=>true | _=>false
def Bd:Value→AV
 |.int k n=>.int k n
 |.bool b=>.bool b
 |.string s=>.str s
 |.pointer none=>.cY
 |.slice none 0 0=>.ai
 |.nilIface=>.nilif
 |.nilFunc=>.iT
 |.map none=>.pR
 |_=>.any
def Wh:Value→AV
 |.agg cs=>match (cs.toList.map Bd).all AV.leaf with | true=>.agg (cs.toList.map Bd) | false=>.any
 |.tuple vs=>match vs.toList with | []=>.tup [] | _=>.any
 |v=>Bd v
def ev(t:Tm):Operand→AV
 |.tmp i=>t i
 |.const v=>Wh v
 |.global _=>.any
 |.func f=>.fn (.func f) [] []
def put(t:Tm)(d:Option Tmp)(v:AV):Tm:=
 match d with
 |none=>t
 |some d=>fun i=>match Nat.beq i d with | true=>v | false=>t i
def Er(b:Bool)(A B:Prop):Prop:=match b with | true=>A | false=>B
theorem cX{b:Bool}{A B:Prop}(h1:b=true→A)(h2:b=false→B):Er b A B:=by cases b;exact h2 rfl;exact h1 rfl
theorem ak{p:Prop}[Decidable p]{A B:Prop}(h1:p→A)(h2:¬p→B):Er (decide p) A B:=by
 by_cases h:p
 ·simp only[h,decide_true];exact h1 h
 ·simp only[h,decide_false];exact h2 h
theorem Lm{b:Bool}{A B:Prop}(h:b=true)(h1:A):Er b A B:=by subst h;exact h1
theorem YI{b:Bool}{A B:Prop}(h:b=false)(h1:B):Er b A B:=by subst h;exact h1
def strict(v:AV)(K:AV→Prop):Prop:=
 match v with
 |.int k n=>K (.int k n)
 |.bool b=>K (.bool b)
 |.str s=>K (.str s)
 |.ae e l=>K (.ae e l)
 |.kI=>K .kI
 |.gQ=>K .gQ
 |.ai=>K .ai
 |.af b o l e=>K (.af b o l e)
 |.cY=>K .cY
 |.ptr b o=>K (.ptr b o)
 |.gi cs=>K (.gi cs)
 |.agg cs=>K (.agg cs)
 |.tup vs=>K (.tup vs)
 |.iface t v=>K (.iface t v)
 |.nilif=>K .nilif
 |.fn f a c=>K (.fn f a c)
 |.iT=>K .iT
 |.pR=>K .pR
 |.gA n=>K (.gA n)
 |.gb n m=>K (.gb n m)
 |.any=>K .any
 |.via v=>K (.via v)
 |.nJ b=>K (.nJ b)
 |.oP l=>K (.oP l)
 |.nT b=>K (.nT b)
 |.sK m c s=>K (.sK m c s)
 |.mP L t=>K (.mP L t)
theorem yS(v:AV)(K:AV→Prop):strict v K=K v:=by cases v <;> rfl
def bU:AV→AV
 |.via v=>v
 |v=>v
structure aG(p:Prop)(X:Prop):Prop where
 fact:p
 go:X
def ep(i:TI)(cs:List AV)(off:Nat):Option AV:=
 match i.wide with
 |true=>match Nat.ble (off+i.size) cs.length with | true=>some (.agg ((cs.drop off).take i.size)) | false=>none
 |false=>cs[off]?
def fV(cs:List AV)(off:Nat):List AV→List AV
 | []=>cs
 |v::r=>fV (cs.set off v) (off+1) r
def kX(i:TI)(cs:List AV)(off:Nat)(v:AV):Option (List AV):=
 match v.cells? with
 |some vs=>match Nat.beq vs.length i.size,Nat.ble (off+i.size) cs.length with | true,true=>some (fV cs off vs) | _,_=>none
 |none=>none
inductive eY(i:TI)(σ:Hp)(b o:Nat)(K:AV→Prop):Prop where
 |mk (j:Nat) (cs:List AV) (v:AV) (h1:σ[j]?=some (b,cs)) (h2:ep i cs o=some v) (go:K v)
inductive H0(i:TI)(σ:Hp)(b o:Nat)(v:AV)(K:Hp→Prop):Prop where
 |mk (j:Nat) (cs cs':List AV) (h1:σ[j]?=some (b,cs)) (h2:kX i cs o v=some cs') (go:K (σ.set j (b,cs')))
theorem bf{i:TI}{σ:Hp}{b o:Nat}{K:AV→Prop}(j:Nat){cs:List AV}{v:AV}(h1:σ[j]?=some (b,cs))(h2:ep i cs o=some v)(go:K v):eY i σ b o K:=.mk j cs v h1 h2 go
theorem cT{i:TI}{σ:Hp}{b o:Nat}{v:AV}{K:Hp→Prop}(j:Nat){cs cs':List AV}(h1:σ[j]?=some (b,cs))(h2:kX i cs o v=some cs')(go:K (σ.set j (b,cs'))):H0 i σ b o v K:=.mk j cs cs' h1 h2 go
theorem aa{i:TI}{σ:Hp}{b o:Nat}{K:AV→Prop}(j:Nat){cs:List AV}{v:AV}(go:K v)(h1:σ[j]?=some (b,cs):=by exact rfl)(h2:ep i cs o=some v:=by exact rfl):eY i σ b o K:=.mk j cs v h1 h2 go
theorem aj{i:TI}{σ:Hp}{b o:Nat}{v:AV}{K:Hp→Prop}(j:Nat){cs cs':List AV}(go:K (σ.set j (b,cs')))(h1:σ[j]?=some (b,cs):=by exact rfl)(h2:kX i cs o v=some cs':=by exact rfl):H0 i σ b o v K:=.mk j cs cs' h1 h2 go
theorem bc{p q r s X:Prop}(go:X)(h1:p:=by omega)(h2:q:=by omega)(h3:r:=by omega)(h4:s:=by decide):aG (p∧q∧r∧s) X:=.mk ⟨h1,h2,h3,h4⟩ go
theorem aM{p q r X:Prop}(go:X)(h1:p:=by exact rfl)(h2:q:=by omega)(h3:r:=by omega):aG (p∧q∧r) X:=.mk ⟨h1,h2,h3⟩ go
theorem eD{p X:Prop}(go:X)(h1:p:=by omega):aG p X:=.mk h1 go
inductive bE{α:Type}(l:List α)(n:Int)(K:α→Prop):Prop where
 |mk (x:α) (h0:0≤n) (h1:l[n.toNat]?=some x) (go:K x)
def sH(Vo:List (Nat×Nat))(cs:List AV):List (Nat×AV)→Option (List AV)
 | []=>some cs
 |(i,v)::r=>match Vo[i]?,v.cells? with
  |some (off,size),some vs=>match Nat.beq vs.length size,Nat.ble (off+size) cs.length with | true,true=>sH Vo (fV cs off vs) r | _,_=>none
  |_,_=>none
def cD(z:List AV):Nat→List AV
 | 0=>[]
 |n+1=>z++cD z n
section
variable (P:Program) (TT:TypeId→Option TI)
def DC:List (Nat×TypeId)→Option (List (Nat×Nat))
 | []=>some []
 |(off,t)::r=>match TT t,DC r with | some i,some ps=>some ((off,i.size)::ps) | _,_=>none
def Im(t:TypeId)(parts:List (Nat×AV)):Option AV:=
 match TT t with
 |some ⟨.bj fs,_,_,z⟩=>match DC TT fs with | some ps=>(sH ps z parts).map .agg | none=>none
 |some ⟨.arr n e,_,_,z⟩=>match TT e with | some i=>(sH ((List.range n).map fun j=>(j*i.size,i.size)) z parts).map .agg | none=>none
 |_=>none
def qC(i:TI)(a:AV)(σ:Hp)(K:AV→Prop):Prop:=
 match a with
 |.gi cs=>match ep i cs 0 with | some v=>K v | none=>False
 |.ptr b o=>eY i σ b o K
 |_=>False
def oV(b:Bool)(K:AV→Prop):Prop:=Er b (K (.bool true)) (K (.bool false))
def Bp(k:TK)(want:Bool)(x y:AV)(K:AV→Prop):Prop:=
 match k,x,y with
 |.ptr _,.cY,.cY=>K (.bool want)
 |.ptr _,.ptr _ _,.cY=>K (.bool !want)
 |.ptr _,.gi _,.cY=>K (.bool !want)
 |.slice _,.ai,.ai=>K (.bool want)
 |.slice _,.af _ _ _ _,.ai=>K (.bool !want)
 |.slice _,.gQ,.ai=>K (.bool !want)
 |.slice _,.ae _ l,.ai=>aG (0<l.length) (K (.bool !want))
 |.iface,.nilif,.nilif=>K (.bool want)
 |.iface,.iface _ _,.nilif=>K (.bool !want)
 |.func,.iT,.iT=>K (.bool want)
 |.func,.fn _ _ _,.iT=>K (.bool !want)
 |_,_,_=>False
def Uy:Operand→Bool
 |.const _=>true
 |_=>false
def I4(op:BinOp)(k:IntKind)(a b:Int)(K:AV→Prop):Prop:=
 match op with
 |.add=>K (.int k (k.wrap (a+b)))
 |.sub=>K (.int k (k.wrap (a-b)))
 |.mul=>K (.int k (k.wrap (a*b)))
 |.quo=>aG (b≠0) (K (.int k (k.wrap (a.tdiv b))))
 |.rem=>aG (b≠0) (K (.int k (a.tmod b)))
 |.and | .or | .xor | .andNot=>K (.int k (bits op k a b))
 |.eql=>oV (decide (a=b)) K
 |.neq=>oV (!decide (a=b)) K
 |.lss=>oV (decide (a<b)) K
 |.leq=>oV (decide (a≤b)) K
 |.gtr=>oV (decide (b<a)) K
 |.geq=>oV (decide (b≤a)) K
 |_=>False
def H4(op:BinOp)(k:IntKind)(a b:Int)(K:AV→Prop):Prop:=
 match op with
 |.shl=>aG (0≤b) (K (.int k (k.wrap (a*2 ^ (min b.toNat k.bits)))))
 |.shr=>aG (0≤b) (K (.int k (a.fdiv (2 ^ (min b.toNat k.bits)))))
 |_=>False
def EY(op:BinOp)(t:TypeId)(y0:Operand)(x y:AV)(K:AV→Prop):Prop:=
 match x,y with
 |.int k a,.int k' b=>match op with
  |.shl | .shr=>H4 op k a b K
  |_=>match decide (k=k') with | true=>I4 op k a b K | false=>False
 |.bool a,.bool b=>match TT t with
  |some ⟨.bool,_,_,_⟩=>(match op with | .eql=>oV (a == b) K | .neq=>oV (!(a == b)) K | _=>False)
  |_=>False
 |.str a,.str b=>match op with | .eql=>oV (a.toList == b.toList) K | .neq=>oV (!(a.toList == b.toList)) K | _=>False
 |x,y=>match Uy y0,TT t with
  |true,some i=>(match op with | .eql=>Bp i.k true x y K | .neq=>Bp i.k false x y K | _=>False)
  |_,_=>False
def ag2:AV→AV→Bool
 |.int _ a,.int _ b=>decide (a=b)
 |.bool a,.bool b=>a == b
 |.str a,.str b=>a.toList == b.toList
 |_,_=>false
def tU(xs ys:List AV):List Bool:=List.zipWith ag2 xs ys
def fP(l:List Bool):Bool:=l.all id
def Je(TT:TypeId→Option TI)(rec:TypeId→AV→AV→Option (List Bool))(xs ys:List AV):List Field→Option (List Bool)
 | []=>some []
 | f :: fs => match f.name == "_", TT f.type with
  |false,some i=>match ep i xs f.offset,ep i ys f.offset with
   |some a,some b=>match rec f.type a b,Je TT rec xs ys fs with | some l,some l'=>some (l++l') | _,_=>none
   |_,_=>none
  |_,_=>none
def Jd(TT:TypeId→Option TI)(rec:TypeId→AV→AV→Option (List Bool))(e:TypeId)(c:Nat)(xs ys:List AV):List Nat→Option (List Bool)
 | []=>some []
 |k::ks=>match TT e with
  |some i=>match ep i xs (k*c),ep i ys (k*c) with
   |some a,some b=>match rec e a b,Jd TT rec e c xs ys ks with | some l,some l'=>some (l++l') | _,_=>none
   |_,_=>none
  |none=>none
def Au(P:Program)(TT:TypeId→Option TI):Nat→TypeId→AV→AV→Option (List Bool)
 | 0,_,_,_=>none
 |d+1,t,x,y=>match P.underlying t,x,y with
  |some .bool,.bool a,.bool b=>some [a == b]
  |some (.int _),.int k a,.int k' b=>(match decide (k=k') with | true=>some [decide (a=b)] | false=>none)
  |some .string,.str a,.str b=>some [a.toList == b.toList]
  |some (.struct fs),.agg xs,.agg ys=>(match P.stoodInHeld t with | true=>none | false=>Je TT (Au P TT d) xs ys fs.toList)
  |some (.array n e),.agg xs,.agg ys=>(match TT e with | some _=>Jd TT (Au P TT d) e (P.cellsOf e) xs ys (List.range n) | none=>none)
  |_,_,_=>none
inductive EqAt(P:Program)(TT:TypeId→Option TI)(t:TypeId)(xs ys:List AV)(K:Bool→Prop):Prop where
 |mk (h1:P.eqGuardType P.depth t=false) (h2:Au P TT 8 t (.agg xs) (.agg ys)=some (tU xs ys)) (go:K (fP (tU xs ys))):EqAt P TT t xs ys K
def iw(n:Int):Prop:=n.natAbs<9007199254740992
def Ob(op:BinOp)(a b c d:Int)(K:AV→Prop):Prop:=
 match op with
 |.add=>aG (iw (a+c)∧iw (b+d)) (K (.gb (a+c) (b+d)))
 |.sub=>aG (iw (a-c)∧iw (b-d)) (K (.gb (a-c) (b-d)))
 |.mul=>aG ((iw (a*c)∧iw (b*d)∧iw (a*c-b*d))∧iw (a*d)∧iw (b*c)∧iw (a*d+b*c)) (K (.gb (a*c-b*d) (a*d+b*c)))
 |_=>False
def En(x y:AV)(K:AV→Prop):Prop:=match x,y with | .gA a,.gA b=>K (.gb a b) | _,_=>False
def D6(x:AV)(K:AV→Prop):Prop:=match x with | .gb a _=>K (.gA a) | _=>False
def Ed(x:AV)(K:AV→Prop):Prop:=match x with | .gb _ b=>K (.gA b) | _=>False
def EZ(P:Program)(TT:TypeId→Option TI)(op:BinOp)(t:TypeId)(y0:Operand)(x y:AV)(K:AV→Prop):Prop:=
 match x,y with
 |.agg xs,.agg ys=>match op with
  |.eql=>EqAt P TT t xs ys fun b=>oV b K
  |.neq=>EqAt P TT t xs ys fun b=>oV (!b) K
  |_=>False
 |.gb a b,.gb c d=>Ob op a b c d K
 |x,y=>EY TT op t y0 x y K
def E5(op:UnOp)(x:AV)(K:AV→Prop):Prop:=
 match op,x with
 |.not,.bool b=>K (.bool !b)
 |.neg,.int k n=>K (.int k (k.wrap (0-n)))
 |.xor,.int k n=>K (.int k (bits .xor k (if k.signed then -1 else k.max) n))
 |.neg,.gA n=>K (.gA (-n))
 |_,_=>False
def Eo(s d:TypeId)(x:AV)(K:AV→Prop):Prop:=
 match TT s,TT d,x with
 |some _,some ⟨.int k,_,_,_⟩,.int _ n=>K (.int k (k.wrap n))
 |some _,some ⟨.gA,_,_,_⟩,.int _ n=>aG (iw n) (K (.gA n))
 |some _,some ⟨.int k,_,_,_⟩,.gA n=>aG (k.min≤n∧n≤k.max) (K (.int k n))
 |_,_,_=>False
def tQ:Option AV→Option Int
 |none=>some 0
 |some (.int _ n)=>some n
 |_=>none
def Bu(len:Nat):Option AV→Option Int
 |none=>some len
 |some (.int _ n)=>some n
 |_=>none
def Bc(t:TypeId)(x:AV)(lo hi mx:Option AV)(K:AV→Prop):Prop:=
 match TT t,mx with
 |some ⟨.slice e,_,_,_⟩,none=>match TT e,x with
  |some i,.af b off len es=>match tQ lo,Bu len hi with
   |some l,some h=>aG (0≤l∧l≤h∧h≤len∧i.size=es) (K (.af b (off+l.toNat*es) (h.toNat-l.toNat) es))
   |_,_=>False
  |some i,.ae s xs=>match tQ lo,Bu xs.length hi with
   |some l,some h=>aG (0≤l∧l≤h∧h≤xs.length∧i.size=s.size) (K (.ae s ((xs.drop l.toNat).take (h.toNat-l.toNat))))
   |_,_=>False
  |some _,.ai=>match tQ lo,Bu 0 hi with
   |some l,some h=>aG (0≤l∧l≤h∧h≤(0:Nat)) (K .ai)
   |_,_=>False
  |_,_=>False
 |some ⟨.slice e,_,_,_⟩,some (.int _ m)=>match TT e,x,hi with
  |some i,.af b off len es,some (.int _ h)=>match tQ lo with
   |some l=>aG (0≤l∧l≤h∧h≤m∧m≤len∧i.size=es) (K (.af b (off+l.toNat*es) (h.toNat-l.toNat) es))
   |_=>False
  |_,_,_=>False
 |_,_=>False
def CP(t:TypeId)(x ix:AV)(K:AV→Prop):Prop:=
 match TT t,ix with
 |some ⟨.slice e,_,_,_⟩,.int _ n=>match TT e,x with
  |some i,.ae s l=>aG (i.size=s.size) (bE l n fun d=>K (.gi (s.cells d)))
  |some i,.af b off len es=>aG (i.size=es∧0≤n∧n<len) (K (.ptr b (off+n.toNat*es)))
  |_,_=>False
 |some ⟨.arr m e,_,_,_⟩,.int _ n=>match TT e,x with
  |some i,.ptr b o=>aG (0≤n∧n<m) (K (.ptr b (o+n.toNat*i.size)))
  |some i,.gi cs=>aG (0≤n∧n<m) (K (.gi (cs.drop (n.toNat*i.size))))
  |_,_=>False
 |_,_=>False
def getM:List (Int×Int)→Int→Option Int
 | [],_=>none
 |p::l,n=>if p.1=n then some p.2 else getM l n
def rV:List (Int×Int)→Int→Int→List (Int×Int)
 | [],n,x=>[(n,x)]
 |p::l,n,x=>if p.1=n then (n,x)::l else p::rV l n x
inductive IW(σ:Hp)(m:AV)(K:Nat→Nat→List (Int×Int)→Prop):Prop where
 |mk (j b:Nat) (l:List (Int×Int)) (hm:m=.nJ b) (h1:σ[j]?=some (b,[.oP l])) (go:K j b l):IW σ m K
def BH(t:TypeId):Option Int:=match TT t with
 |some ⟨.map k e,_,_,_⟩=>(match TT k,TT e with | some ⟨.int .i64,_,_,_⟩,some ⟨.int .i64,_,_,[.int .i64 z]⟩=>some z | _,_=>none)
 |_=>none
def DJ(t:TypeId)(m k:AV)(c:Bool)(σ:Hp)(K:AV→Prop):Prop:=
 match BH TT t,k with
 |some z,.int .i64 n=>IW σ m fun _ _ l=>(match c with | true=>K (.tup [.int .i64 ((getM l n).getD z),.bool (getM l n).isSome]) | false=>K (.int .i64 ((getM l n).getD z)))
 |_,_=>False
def CS(s:TypeId)(x:AV)(f:Nat)(K:AV→Prop):Prop:=
 match TT s with
 |some ⟨.bj fs,_,_,_⟩=>match fs[f]? with
  |some (off,t)=>match TT t with
   |some i=>match Nat.blt 0 i.size,x with
    |true,.ptr b o=>K (.ptr b (o+off))
    |true,.gi cs=>K (.gi (cs.drop off))
    |_,_=>False
   |none=>False
  |none=>False
 |_=>False
def DZ(s:TypeId)(x:AV)(f:Nat)(K:AV→Prop):Prop:=
 match TT s,x with
 |some ⟨.bj fs,_,_,_⟩,.agg cs=>match fs[f]? with
  |some (off,t)=>match TT t with | some i=>(match ep i cs off with | some v=>K v | none=>False) | none=>False
  |none=>False
 |_,_=>False
def EH(k:TK)(x:AV)(K:AV→Prop):Prop:=
 match k,x with
 |.slice _,.ae _ l=>K (.int .i64 l.length)
 |.slice _,.af _ _ len _=>K (.int .i64 len)
 |.slice _,.ai=>K (.int .i64 0)
 |.slice _,.kI=>K (.int .i64 0)
 |.slice _,.gQ=>K (.int .i64 0)
 |_,_=>False
def EX(k:TK)(x:AV)(K:AV→Prop):Prop:=
 match k,x with
 |.slice _,.ai=>K (.int .i64 0)
 |.slice _,.kI=>K (.int .i64 0)
 |_,_=>False
def ED(xs:List AV)(K:AV→Prop):Prop:=
 match xs with
 | [.int k a,.int k' b]=>match decide (k=k') with | true=>K (.int k (if b<a then b else a)) | false=>False
 |_=>False
def EE(xs:List AV)(K:AV→Prop):Prop:=
 match xs with
 | [.int k a,.int k' b]=>match decide (k=k') with | true=>K (.int k (if a<b then b else a)) | false=>False
 |_=>False
def AheadOk(t:TypeId)(m:String):Prop:=∀(a:Addr) (w:World),(nilAhead (P.types.size+Made.depth) t (.pointer (some a)) m).run P w=.ok (some false) w
inductive fo(t:TypeId)(m:String)(X:Prop):Prop where
 |mk (h:AheadOk P t m) (go:X):fo t m X
def fQ(op:Op)(ρ:Operand→AV)(σ:Hp)(K:AV→Prop):Prop:=
 match op with
 |.move x | .assign x=>strict (ρ x) K
 |.pick c a b=>match ρ c with | .bool x=>(match x with | true=>strict (ρ a) K | false=>strict (ρ b) K) | _=>False
 |.build t parts=>match Im TT t (parts.toList.map fun p=>(p.1,ρ p.2)) with | some v=>K v | none=>False
 |.load t a=>match TT t with | some i=>qC i (ρ a) σ K | none=>False
 |.nilCheck x=>match ρ x with | .ptr b o=>K (.ptr b o) | .gi cs=>K (.gi cs) | .fn (.func f) a c=>K (.fn (.func f) a c) | .fn (.method m) [.iface t (.ptr b o)] c=>fo P t m (K (.fn (.method m) [.iface t (.ptr b o)] c)) | .iface t v=>K (.iface t v) | _=>False
 |.binOp op t x y _=>EZ P TT op t y (bU (ρ x)) (bU (ρ y)) K
 |.unOp op _ x=>E5 op (ρ x) K
 |.convert s d x=>Eo TT s d (ρ x) K
 |.makeInterface t x=>match TT t with | some ⟨.iface,_,_,_⟩=>False | some _=>K (.iface t (ρ x)) | none=>False
 |.makeFunc f first cap=>K (.fn f (first.toList.map ρ) (cap.toList.map ρ))
 |.slice t x lo hi mx=>Bc TT t (bU (ρ x)) (lo.map fun x=>bU (ρ x)) (hi.map fun x=>bU (ρ x)) (mx.map fun x=>bU (ρ x)) K
 |.fieldAddr s x f=>CS TT s (ρ x) f K
 |.field s x f=>DZ TT s (ρ x) f K
 |.indexAddr t x ix=>CP TT t (bU (ρ x)) (bU (ρ ix)) K
 |.typeAssert x _ t ok=>match ok,TT t,ρ x with
  |true,some ⟨.ptr _,_,_,[.cY]⟩,.iface t' v=>(match Nat.beq t' t with | true=>K (.tup [v,.bool true]) | false=>K (.tup [.cY,.bool false]))
  |true,some ⟨.ptr _,_,_,[.cY]⟩,.nilif=>K (.tup [.cY,.bool false])
  |_,_,_=>False
 |.lookup t m k c=>DJ TT t (bU (ρ m)) (bU (ρ k)) c σ K
 |.extract x i=>match ρ x with | .tup vs=>(match vs[i]? with | some v=>K v | none=>False) | _=>False
 |.call ⟨.builtin .len,args,cF⟩=>match args.toList,cF.toList with | [x],[t]=>(match TT t with | some i=>EH i.k (bU (ρ x)) K | none=>False) | _,_=>False
 |.call ⟨.builtin .min,args,_⟩=>match args.toList with | [x,y]=>ED [ρ x,ρ y] K | _=>False
 |.call ⟨.builtin .max,args,_⟩=>match args.toList with | [x,y]=>EE [ρ x,ρ y] K | _=>False
 |.call ⟨.builtin .complex,args,_⟩=>match args.toList with | [x,y]=>En (ρ x) (ρ y) K | _=>False
 |.call ⟨.builtin .real,args,_⟩=>match args.toList with | [x]=>D6 (ρ x) K | _=>False
 |.call ⟨.builtin .imag,args,_⟩=>match args.toList with | [x]=>Ed (ρ x) K | _=>False
 |.call ⟨.builtin .cap,args,cF⟩=>match args.toList,cF.toList with | [x],[t]=>(match TT t with | some i=>EX i.k (bU (ρ x)) K | none=>False) | _,_=>False
 |_=>False
end
end Go.Proofs.YtnikdflhefijbaaGreat
namespace Go.Proofs.YtnikdflhefijbaaGreat
open Ieee
def oK(d:Datum)(N:Int):Prop:=∃s m p,d=.number s m p∧m*2 ^ p.toNat=N.natAbs*2 ^ (-p).toNat∧(N≠0→s=decide (N<0))
theorem A1(m k:Nat):m <<< k=m*2 ^ k:=Nat.shiftLeft_eq m k
theorem YZ(s:Bool)(m u:Nat):(signed s m u).natAbs=m*2 ^ u:=by
 unfold signed
 rw[A1]
 split
 ·rw[Int.natAbs_neg,Ku]
 ·rw[Ku]
theorem Lt{m A:Nat}{p base:Int}(h:m*2 ^ p.toNat=A*2 ^ (-p).toNat)(hb:base≤p):m*2 ^ (p-base).toNat*2 ^ base.toNat=A*2 ^ (-base).toNat:=by
 rcases FP base 0 with h0 | h0
 ·rcases FP p 0 with h1 | h1
  ·have e1:p.toNat=0:=by omega
   have e2:base.toNat=0:=by omega
   rw[e1,te,eA]at h
   rw[e2,te,eA,h,Cp,← sj]
   congr 2;omega
  ·have e1:(-p).toNat=0:=by omega
   have e2:base.toNat=0:=by omega
   have e3:(p-base).toNat=p.toNat+(-base).toNat:=by omega
   rw[e1,te,eA]at h
   rw[e2,te,eA,e3,sj,← Cp,h]
 ·have e1:(-p).toNat=0:=by omega
  have e2:(-base).toNat=0:=by omega
  rw[e1,te,eA]at h
  rw[e2,te,eA,Cp,← sj,← h]
  congr 2;omega
theorem Lc{s:Bool}{m u:Nat}{N:Int}{A B:Nat}(h:m*2 ^ u*A=N.natAbs*B)(hs:N≠0→s=decide (N<0))(hA:0<A):signed s m u*(A:Int)=N*(B:Int):=by
 have h':((m*2 ^ u:Nat):Int)*(A:Int)=(N.natAbs:Int)*(B:Int):=by exact_mod_cast h
 by_cases h0:N=0
 ·subst h0
  have hm:m*2 ^ u=0:=by
   have:m*2 ^ u*A=0:=by rw[h];simp
   rcases Nat.mul_eq_zero.1 this with h1 | h1
   ·exact h1
   ·omega
  have:signed s m u=0:=Int.natAbs_eq_zero.1 (by rw[YZ,hm])
  rw[this];simp
 ·have hs:=hs h0
  subst hs
  unfold signed
  rw[A1]
  by_cases hn:N<0
  ·rw[aT hn,ah rfl,Int.neg_mul,h',← Int.neg_mul]
   congr 1;omega
  ·rw[bS hn,ag (by decide),h']
   congr 1;omega
theorem qn(k:Nat):0<2 ^ k:=Cq k
theorem R3{d e:Datum}{N M:Int}(hd:oK d N)(he:oK e M):∃x,d.sum e=some x∧oK x (N+M):=by
 obtain⟨s,m,i,rfl,h1,h2⟩:=hd
 obtain⟨t,n,j,rfl,h3,h4⟩:=he
 refine⟨_,rfl,_,_,_,rfl,?_,?_⟩
 all_goals
  have e1:=Lc (Lt h1 (Int.min_le_left i j)) h2 (qn _)
  have e2:=Lc (Lt h3 (Int.min_le_right i j)) h4 (qn _)
  have e3:(signed s m (i-min i j).toNat+signed t n (j-min i j).toNat)*((2 ^ (min i j).toNat:Nat):Int)=(N+M)*((2 ^ (-(min i j)).toNat:Nat):Int):=by rw[Int.add_mul,e1,e2,Int.add_mul]
 ·have:=congrArg Int.natAbs e3
  rw[Kf,Kf,Ku,Ku]at this
  exact this
 ·intro aX
  generalize signed s m (i-min i j).toNat+signed t n (j-min i j).toNat=T at e3
  have hp:=qn (min i j).toNat
  have hq:=qn (-(min i j)).toNat
  generalize (2:Nat) ^ (min i j).toNat=P at e3 hp
  generalize (2:Nat) ^ (-(min i j)).toNat=Q at e3 hq
  have hT:T≠0:=by
   intro h0
   rw[h0,Int.zero_mul]at e3
   rcases Int.mul_eq_zero.1 e3.symm with h5 | h5
   ·exact aX h5
   ·omega
  rw[ag hT]
  refine decide_eq_decide.2 ⟨fun h=>?_,fun h=>?_⟩
  ·have:T*(P:Int)<0:=PE h (by omega)
   rw[e3]at this
   rcases FP (N+M) 0 with h5 | h5
   ·exact h5
   ·have:=Int.mul_nonneg h5 (show (0:Int)≤Q by omega)
    omega
  ·have:(N+M)*(Q:Int)<0:=PE h (by omega)
   rw[← e3]at this
   rcases FP T 0 with h5 | h5
   ·exact h5
   ·have:=Int.mul_nonneg h5 (show (0:Int)≤P by omega)
    omega
theorem R4{d:Datum}{N:Int}(h:oK d N):oK d.opposite (-N):=by
 obtain⟨s,m,p,rfl,h1,h2⟩:=h
 refine⟨_,_,_,rfl,by rw[Int.natAbs_neg];exact h1,fun aX=>?_⟩
 rw[h2 (by omega)]
 by_cases hn:N<0
 ·rw[aT hn,bS (by omega)];rfl
 ·rw[bS hn,aT (by omega)];rfl
theorem Zh{d e:Datum}{N M:Int}(hd:oK d N)(he:oK e M):∃x,d.product e=some x∧oK x (N*M):=by
 obtain⟨s,m,i,rfl,h1,h2⟩:=hd
 obtain⟨t,n,j,rfl,h3,h4⟩:=he
 refine⟨_,rfl,_,_,_,rfl,?_,fun aX=>?_⟩
 ·rw[Kf]
  have h5:(m*2 ^ i.toNat)*(n*2 ^ j.toNat)=(N.natAbs*2 ^ (-i).toNat)*(M.natAbs*2 ^ (-j).toNat):=by rw[h1,h3]
  obtain⟨c,mB,oa⟩:∃c,i.toNat+j.toNat=(i+j).toNat+c∧(-i).toNat+(-j).toNat=(-(i+j)).toNat+c:=⟨i.toNat+j.toNat-(i+j).toNat,by omega,by omega⟩
  have e1:(m*2 ^ i.toNat)*(n*2 ^ j.toNat)=(m*n*2 ^ (i+j).toNat)*2 ^ c:=by
   rw[Cp (m*n),← sj,← mB,sj];ac_rfl
  have e2:(N.natAbs*2 ^ (-i).toNat)*(M.natAbs*2 ^ (-j).toNat)=(N.natAbs*M.natAbs*2 ^ (-(i+j)).toNat)*2 ^ c:=by
   rw[Cp (N.natAbs*M.natAbs),← sj,← oa,sj];ac_rfl
  rw[e1,e2]at h5
  exact Nat.eq_of_mul_eq_mul_right (qn c) h5
 ·have hN:N≠0:=fun h=>aX (by rw[h,Int.zero_mul])
  have hM:M≠0:=fun h=>aX (by rw[h,Int.mul_zero])
  rw[h2 hN,h4 hM]
  rcases Int.lt_or_gt_of_ne hN with a | a <;> rcases Int.lt_or_gt_of_ne hM with b | b
  ·have:=Int.mul_pos_of_neg_of_neg a b
   rw[aT a,aT b,bS (by omega)];rfl
  ·have:=PE a b
   rw[aT a,bS (by omega),aT this];rfl
  ·have:=Int.mul_neg_of_pos_of_neg a b
   rw[bS (by omega),aT b,aT this];rfl
  ·have:=Int.mul_pos a b
   rw[bS (by omega),bS (by omega),bS (by omega)];rfl
theorem K4{A k:Nat}(h:A≠0):(A*2 ^ k).log2=A.log2+k:=by
 have aX:A*2 ^ k≠0:=Nat.mul_ne_zero h (Kz.1 (qn k))
 refine (FZ aX).2 ⟨?_,?_⟩
 ·rw[sj];exact lI _ ((FZ h).1 rfl).1
 ·rw[show A.log2+k+1=A.log2+1+k by omega,sj]
  exact Nat.mul_lt_mul_of_pos_right ((FZ h).1 rfl).2 (qn k)
theorem LG(ie:Toward)(neg:Bool){A k:Nat}(h:A≠0):ie.cut neg (A*2 ^ k) k=A:=by
 have jH:min k ((A*2 ^ k).log2+2)=k:=by rw[K4 h];omega
 unfold Toward.cut
 dsimp only
 rw[jH,A1,Nat.one_mul,Nat.mul_div_cancel _ (qn k),Nat.mul_mod_left]
 cases ie
 ·have h1:¬2 ^ k<2*0:=by simp
  have h2:((2 ^ k:Nat) == 2*0)=false:=by
   have:=qn k
   simp
  simp[h2]
 ·cases neg <;> rfl
 ·cases neg <;> rfl
 ·rfl
theorem acH(ie:Toward)(neg:Bool)(k:Nat):ie.cut neg 0 k=0:=by
 unfold Toward.cut
 dsimp only
 have jH:1 <<< min k ((0:Nat).log2+2)≠0:=by rw[A1,Nat.one_mul];exact Kz.1 (qn _)
 generalize (1:Nat) <<< min k ((0:Nat).log2+2)=g at jH
 rw[Nat.zero_div,Nat.zero_mod]
 cases ie
 ·have h2:(g == 2*0)=false:=by simpa using jH
  simp[h2]
 ·cases neg <;> rfl
 ·cases neg <;> rfl
 ·rfl
theorem Yv{d:Datum}{N:Int}(h:oK d N):d.toInt .zero=some N:=by
 obtain⟨s,m,p,rfl,h1,h2⟩:=h
 have e:Toward.zero.cut s (m <<< p.toNat) (-p).toNat=N.natAbs:=by
  rw[A1,h1]
  by_cases h0:N=0
  ·subst h0;rw[Ki,yv];exact acH _ _ _
  ·exact LG _ _ (by omega)
 show some (signed s (Toward.zero.cut s (m <<< p.toNat) (-p).toNat) 0)=some N
 rw[e]
 congr 1
 have:=Lc (s:=s) (m:=N.natAbs) (u:=0) (N:=N) (A:=1) (B:=1) (by simp) h2 (by decide)
 simpa using this
theorem ZP(s:Bool){rung:Nat}(h:rung<2 ^ 63):(double.word s rung / double.signWeight % 2 == 1)=s∧double.word s rung % double.signWeight=rung:=by
 have hw:double.signWeight=9223372036854775808:=by decide
 have h':rung<9223372036854775808:=h
 unfold Format.word
 rw[hw]
 cases s
 ·rw[ag (by decide)]
  refine⟨?_,by omega⟩
  rw[show rung / 9223372036854775808=0 by omega];rfl
 ·rw[ah rfl]
  refine⟨?_,by omega⟩
  rw[show (9223372036854775808+rung) / 9223372036854775808=1 by omega];rfl
theorem RO(s:Bool):double.read (double.word s 0)=.number s 0 (-1074):=by
 cases s <;> decide
theorem Yi(s:Bool){L kept:Nat}(hL:L≤52)(h1:4503599627370496≤kept)(h2:kept<9007199254740992):double.read (double.word s ((L+1022)*4503599627370496+kept))=.number s kept ((L:Int)-52):=by
 have hb:double.binade=4503599627370496:=by decide
 have hi:double.infRung=9218868437227405312:=by decide
 have hl:double.leastPlace = -1074:=by decide
 obtain⟨e1,e2⟩:=ZP s (rung:=(L+1022)*4503599627370496+kept) (by show _<9223372036854775808;omega)
 unfold Format.read
 dsimp only
 rw[e1,e2,hb,hi,hl,ag (by omega),ah (by omega)]
 congr 1
 ·omega
 ·have:((L+1022)*4503599627370496+kept) / 4503599627370496=L+1023:=by omega
  rw[this];omega
theorem Yu{d:Datum}{N:Int}(h:oK d N)(hN:N.natAbs<9007199254740992):oK (double.read (double.write d)) N:=by
 obtain⟨s,m,p,rfl,h1,h2⟩:=h
 have hb:double.binade=4503599627370496:=by decide
 have hi:double.infRung=9218868437227405312:=by decide
 have hl:double.leastPlace = -1074:=by decide
 show oK (double.read (double.nearest s m p)) N
 by_cases h0:N=0
 ·subst h0
  have hm:m=0:=by
   rw[Ki,yv]at h1
   rcases Nat.mul_eq_zero.1 h1 with h | h
   ·exact h
   ·exact absurd h (Kz.1 (qn _))
  subst hm
  have:double.nearest s 0 p=double.word s 0:=rfl
  rw[this,RO]
  exact⟨s,0,-1074,rfl,by rw[yv,Ki,yv],fun h=>absurd rfl h⟩
 ·obtain⟨A,hA⟩:∃A,A=N.natAbs:=⟨_,rfl⟩
  rw[← hA]at h1 hN
  have q9:A≠0:=by omega
  have JU:m≠0:=by
   intro h
   subst h
   rw[yv]at h1
   rcases Nat.mul_eq_zero.1 h1.symm with h | h
   ·exact q9 h
   ·exact absurd h (Kz.1 (qn _))
  have aij:(p:Int)+m.log2=A.log2:=by
   have e:=congrArg Nat.log2 h1
   rw[K4 JU,K4 q9]at e
   omega
  obtain⟨L,hL⟩:∃L,L=A.log2:=⟨_,rfl⟩
  rw[← hL]at aij
  have FO:=((FZ q9).1 hL.symm).1
  have hA2:=((FZ q9).1 hL.symm).2
  have aiv:L≤52:=by
   refine Nat.le_of_not_lt fun h=>?_
   have:2 ^ 53≤2 ^ L:=uM (by decide) h
   have:(2:Nat) ^ 53=9007199254740992:=by decide
   omega
  obtain⟨K,hK⟩:∃K,K=A*2 ^ (52-L):=⟨_,rfl⟩
  have hK1:4503599627370496≤K:=by
   have:2 ^ L*2 ^ (52-L)≤K:=by rw[hK];exact lI _ FO
   rw[← sj,show L+(52-L)=52 by omega]at this
   exact this
  have hK2:K<9007199254740992:=by
   have:K<2 ^ (L+1)*2 ^ (52-L):=by rw[hK];exact Nat.mul_lt_mul_of_pos_right hA2 (qn _)
   rw[← sj,show L+1+(52-L)=53 by omega]at this
   exact this
  have hK0:K≠0:=by omega
  have Nr:max (p+(m.log2:Int)-52) (-1074)=(L:Int)-52:=by omega
  have iX:Toward.even.cut s (m <<< (p-((L:Int)-52)).toNat) (((L:Int)-52)-p).toNat=K:=by
   rw[A1]
   rcases FP p ((L:Int)-52) with h | h
   ·have e1:(p-((L:Int)-52)).toNat=0:=by omega
    have e2:p.toNat=0:=by omega
    rw[e2,te,eA]at h1
    rw[e1,te,eA,h1]
    have e3:(-p).toNat=(52-L)+(((L:Int)-52)-p).toNat:=by omega
    rw[e3,sj,← Cp,← hK]
    exact LG _ _ hK0
   ·have e1:(((L:Int)-52)-p).toNat=0:=by omega
    have e2:=Lt h1 h
    rw[show ((L:Int)-52).toNat=0 by omega,te,eA,show (-((L:Int)-52)).toNat=52-L by omega,← hK]at e2
    rw[e1,e2]
    have:=LG .even s (A:=K) (k:=0) hK0
    rw[te,eA]at this
    exact this
  have hn:double.nearest s m p=double.word s ((L+1022)*4503599627370496+K):=by
   unfold Format.nearest
   rw[ag JU]
   dsimp only
   rw[hl,hb,hi]
   show double.word s (min ((max (p+(m.log2:Int)-52) (-1074) - -1074).toNat*4503599627370496+Toward.even.cut s (m <<< (p-max (p+(m.log2:Int)-52) (-1074)).toNat) (max (p+(m.log2:Int)-52) (-1074)-p).toNat) 9218868437227405312)=_
   rw[Nr,iX,show ((L:Int)-52 - -1074).toNat=L+1022 by omega]
   have jH:(L+1022)*4503599627370496+K≤9218868437227405312:=by omega
   exact congrArg (double.word s) (Ky jH)
  have e:double.read (double.nearest s m p)=.number s K ((L:Int)-52):=(congrArg double.read hn).trans (Yi s aiv hK1 hK2)
  rw[e]
  refine⟨s,K,(L:Int)-52,rfl,?_,h2⟩
  rw[← hA,show ((L:Int)-52).toNat=0 by omega,te,eA,show (-((L:Int)-52)).toNat=52-L by omega]
  exact hK
structure jC(b:Nat)(N:Int):Prop where
 lt:b<2 ^ 64
 isInt:oK (double.read b) N
theorem aap(N:Int):oK (.number (decide (N<0)) N.natAbs 0) N:=⟨_,_,_,rfl,by simp,fun _=>rfl⟩
theorem G1{d:Datum}{N:Int}(h:oK d N)(hN:N.natAbs<9007199254740992):jC (double.write d) N:=⟨double.write_lt d,Yu h hN⟩
theorem ag5{N:Int}(hN:N.natAbs<9007199254740992):jC (Go.FloatKind.nearest .f64 N) N:=G1 (aap N) hN
theorem MB{x y:Nat}{N M:Int}(hx:jC x N)(hy:jC y M)(h:(N+M).natAbs<9007199254740992):∃r,floatBits .add .f64 x y=some r∧jC r (N+M):=by
 obtain⟨d,e1,e2⟩:=R3 hx.isInt hy.isInt
 exact⟨double.write d,congrArg (Option.map double.write) e1,G1 e2 h⟩
theorem MA{x y:Nat}{N M:Int}(hx:jC x N)(hy:jC y M)(h:(N-M).natAbs<9007199254740992):∃r,floatBits .sub .f64 x y=some r∧jC r (N-M):=by
 obtain⟨d,e1,e2⟩:=R3 hx.isInt (R4 hy.isInt)
 rw[← Int.sub_eq_add_neg]at e2
 exact⟨double.write d,congrArg (Option.map double.write) e1,G1 e2 h⟩
theorem HO{x y:Nat}{N M:Int}(hx:jC x N)(hy:jC y M)(h:(N*M).natAbs<9007199254740992):∃r,floatBits .mul .f64 x y=some r∧jC r (N*M):=by
 obtain⟨d,e1,e2⟩:=Zh hx.isInt hy.isInt
 exact⟨double.write d,congrArg (Option.map double.write) e1,G1 e2 h⟩
theorem aeu{x:Nat}{N:Int}(hx:jC x N)(k:IntKind)(h:k.min≤N∧N≤k.max):floatToIntVal .f64 x k=some N:=by
 unfold floatToIntVal
 have:(FloatKind.f64.decode x).toInt .zero=some N:=Yv hx.isInt
 rw[this]
 exact ah h
theorem L3:jC 0 0:=⟨by decide,⟨false,0,-1074,RO false,by rw[yv,Ki,yv],fun h=>absurd rfl h⟩⟩
theorem TB{b:Nat}(h:b<2 ^ 64):b ^^^ 2 ^ 63=if b<2 ^ 63 then b+2 ^ 63 else b-2 ^ 63:=by
 have e:((BitVec.ofNat 64 b) ^^^ (BitVec.ofNat 64 (2 ^ 63))).toNat=b ^^^ 2 ^ 63:=by
  rw[BitVec.toNat_xor,BitVec.toNat_ofNat,BitVec.toNat_ofNat,uI h,uI (by decide)]
 by_cases hb:b<2 ^ 63
 ·rw[ah hb]
  have:=PH hb 1
  rw[eA]at this
  rw[Nat.add_comm,this]
  refine Cy fun i=>?_
  rw[Nat.testBit_xor,Kg,Px]
  by_cases hi:63=i
  ·subst hi
   rw[wT hb];rfl
  ·rw[decide_eq_false hi];simp
 ·rw[ag hb]
  obtain⟨c,rfl⟩:∃c,b=2 ^ 63+c:=⟨b-2 ^ 63,by omega⟩
  have hc:c<2 ^ 63:=by
   have:(2:Nat) ^ 64=2 ^ 63+2 ^ 63:=by decide
   omega
  have:=PH hc 1
  rw[eA]at this
  rw[KC,this]
  refine Cy fun i=>?_
  rw[Nat.testBit_xor,Kg,Px]
  by_cases hi:63=i
  ·subst hi
   rw[wT hc];rfl
  ·rw[decide_eq_false hi];simp
theorem aet{x:Nat}{N:Int}(hx:jC x N):jC (Go.Op.negFloat .f64 x) (-N):=by
 have e:Go.Op.negFloat .f64 x=x ^^^ 2 ^ 63:=rfl
 have ab:x<18446744073709551616:=hx.lt
 have hsw:double.signWeight=9223372036854775808:=by decide
 have ahb:double.read (x ^^^ 2 ^ 63)=(double.read x).opposite:=by
  rw[TB hx.lt]
  have Ps:(2:Nat) ^ 63=9223372036854775808:=by decide
  rw[Ps]
  unfold Format.read
  dsimp only
  rw[hsw]
  by_cases hb:x<9223372036854775808
  ·rw[ah hb,show (x+9223372036854775808) / 9223372036854775808 % 2=1 by omega,show (x+9223372036854775808) % 9223372036854775808=x by omega,show x / 9223372036854775808 % 2=0 by omega,show x % 9223372036854775808=x by omega]
   repeat' split
   all_goals rfl
  ·rw[ag hb,show (x-9223372036854775808) / 9223372036854775808 % 2=0 by omega,show (x-9223372036854775808) % 9223372036854775808=x-9223372036854775808 by omega,show x / 9223372036854775808 % 2=1 by omega,show x % 9223372036854775808=x-9223372036854775808 by omega]
   repeat' split
   all_goals rfl
 rw[e]
 refine⟨?_,by rw[ahb];exact R4 hx.isInt⟩
 rw[TB hx.lt]
 have Ps:(2:Nat) ^ 63=9223372036854775808:=by decide
 have l8:(2:Nat) ^ 64=18446744073709551616:=by decide
 rw[Ps,l8]
 split <;> omega
def oz(w:World)(b:Nat):Prop:=∃c T fz,w.heap[b]?=some (.cells c T fz)
def FC(F:Nat→Prop)(w:World)(b:Nat):Prop:=F b∧oz w b
def lh(F:Nat→Prop)(w:World):(s:Sh)→List Value→s.T→Prop
 |.int k,cs,(n:Int)=>cs=[.int k n]
 |.bool,cs,(b:Bool)=>cs=[.bool b]
 |.str,cs,(s:ByteArray)=>cs=[.string s]
 |.slice e,cs,(l:List e.T)=>∃(a:Option Addr) (c:Nat),cs=[.slice a l.length c]∧l.length≤c∧c≤maxLen∧(a=none→c=0)∧
   (l≠[]→∃b o,a=some ⟨b,o,none⟩∧FC F w b∧∀i,(h:i<l.length)→∃cs',cs'.length=e.size∧vY w b (o+i*e.size) cs'∧lh F w e cs' l[i])
 |.nil,cs,_=>cs=[]
 |.field f r,cs,(d:f.T×r.T)=>∃c1 c2,cs=c1++c2∧c1.length=f.size∧lh F w f c1 d.1∧lh F w r c2 d.2
def E2(w:World)(b off len e:Nat)(a:Addr)(cap:Nat):Prop:=
 ∃c T fz,w.heap[b]?=some (.cells c T fz)∧len≤cap∧cap≤maxLen∧((a=⟨b,off,none⟩∧off+cap*e≤c.size)∨(a.block=b∧a.spot=none∧len=0∧cap=0))
inductive aA(F:Nat→Prop)(w:World):AV→Value→Prop where
 |int (k:IntKind) (n:Int):aA F w (.int k n) (.int k n)
 |bool (b:Bool):aA F w (.bool b) (.bool b)
 |str (s:ByteArray):aA F w (.str s) (.string s)
 |ae (e:Sh) (l:List e.T) (v:Value) (h:lh F w (.slice e) [v] l):aA F w (.ae e l) v
 |kI (a:Option Addr):aA F w .kI (.slice a 0 0)
 |gQ (a:Addr) (c:Nat) (h:c≤maxLen):aA F w .gQ (.slice (some a) 0 c)
 |ai:aA F w .ai (.slice none 0 0)
 |af (b off len e:Nat) (a:Addr) (cap:Nat) (h:E2 w b off len e a cap):aA F w (.af b off len e) (.slice (some a) len cap)
 |cY:aA F w .cY (.pointer none)
 |ptr (b off:Nat) (h:oz w b):aA F w (.ptr b off) (.pointer (some ⟨b,off,none⟩))
 |gi (cs:List AV) (b o:Nat) (f:Nat→Value) (hF:FC F w b) (h1:∀i x,cs[i]?=some x→w.cell? ⟨b,o+i,none⟩=some (f i)) (hl:∀(i:Nat) (x:AV),cs[i]?=some x→x.leaf=true) (h:∀i x,cs[i]?=some x→aA F w x (f i)):aA F w (.gi cs) (.pointer (some ⟨b,o,none⟩))
 |agg (cs:List AV) (vs:Array Value) (hs:cs.length=vs.size) (hl:∀(i:Nat) (x:AV),cs[i]?=some x→x.leaf=true) (h:∀i x,cs[i]?=some x→aA F w x (vs.getD i undef)):aA F w (.agg cs) (.agg vs)
 |tup (cs:List AV) (vs:Array Value) (hs:cs.length=vs.size) (h:∀i x,cs[i]?=some x→aA F w x (vs.getD i undef)):aA F w (.tup cs) (.tuple vs)
 |iface (t:TypeId) (a:AV) (v:Value) (h:aA F w a v):aA F w (.iface t a) (.iface t v)
 |nilif:aA F w .nilif .nilIface
 |fn (f:Fn) (c1 c2:List AV) (v1 v2:Array Value) (fy:c1.length=v1.size) (gO:c2.length=v2.size) (h1:∀i x,c1[i]?=some x→aA F w x (v1.getD i undef)) (h2:∀i x,c2[i]?=some x→aA F w x (v2.getD i undef)):aA F w (.fn f c1 c2) (.func f v1 v2)
 |iT:aA F w .iT .nilFunc
 |pR:aA F w .pR (.map none)
 |gA (n:Int) (b:Nat) (h:jC b n):aA F w (.gA n) (.float .f64 b)
 |gb (n m:Int) (a b:Nat) (h1:jC a n) (h2:jC b m):aA F w (.gb n m) (.complex .f64 a b)
 |any (v:Value):aA F w .any v
 |via (x:AV) (v:Value) (hl:x.leaf=true) (h:aA F w x v):aA F w (.via x) v
 |nJ (b:Nat):aA F w (.nJ b) (.map (some b))
 |nT (b:Nat):aA F w (.nT b) (.pointer (some ⟨b,0,none⟩))
def ji(F:Nat→Prop)(w:World)(xs:List AV)(vs:Array Value):Prop:=xs.length=vs.size∧∀i x,xs[i]?=some x→aA F w x (vs.getD i undef)
def gr:Nat→List (Int×Int)→List MapEntry
 |_,[]=>[]
 |n,p::l=> { key:=.int .i64 p.1,val:=.int .i64 p.2,born:=n }::gr (n+1) l
def xR:AV→Option Obj
 |.oP l=>some (.map (gr 0 l).toArray l.length)
 |.sK m c s=>some (.mapIter (some m) c s.toArray c)
 |_=>none
def D3(F:Nat→Prop)(w:World)(b:Nat)(cs:List AV):Prop:=
 ∃c T,w.heap[b]?=some (.cells c T (0,0))∧cs.length≤c.size∧∀(i:Nat) (x:AV),cs[i]?=some x→x.leaf=true∧aA F w x (c.getD i undef)
def Holds(F:Nat→Prop)(w:World)(b:Nat)(cs:List AV):Prop:=
 ¬F b∧(D3 F w b cs∨(∃x o,cs=[x]∧w.heap[b]?=some o∧xR x=some o)∨∃L t,cs=[.mP L t]∧w.heap[b]?=some (.loop L)∧∀i,aA F w (t i) (L.tmps.getD i undef))
structure bu(F:Nat→Prop)(w:World)(σ:Hp):Prop where
 nodup:(σ.map Prod.fst).Nodup
 holds:∀p∈σ,Holds F w p.1 p.2
 low:∀b,F b→b<w.heap.size
structure bH(F:Nat→Prop)(w:World)(F':Nat→Prop)(w':World):Prop where
 os:w'.os=w.os
 tape:w'.tape=w.tape
 output:w'.output=w.output
 size:w.heap.size≤w'.heap.size
 sub:∀b,F b→F' b
 fix:∀b,F b→w'.heap[b]?=w.heap[b]?
 rows:∀(b:Nat) (c:Array Value) (T:TypeId) (fz:Nat×Nat),w.heap[b]?=some (.cells c T fz)→∃(c':Array Value) (sm:Nat×Nat),w'.heap[b]?=some (.cells c' T sm)∧c'.size=c.size
 drawn:w.drawn≤w'.drawn
def Enters(P:Program)(f:FuncId):Prop:=∀(args:Array Value) (w:World),(callFunc f args).run P w=.ok (.enter f args) w
def ACalls(P:Program)(f:FuncId)(args:List AV)(σ:Hp)(R:AV→Hp→Prop):Prop:=
 Enters P f∧∀F w vs,ji F w args vs→bu F w σ→Calls P f vs w fun e w'=>∃r v σ' F',e=.returned v∧bH F w F' w'∧bu F' w' σ'∧aA F' w' r v∧R r σ'
def pull(i:Nat)(σ:Hp):Hp:=match σ[i]? with | some p=>p::σ.eraseIdx i | none=>σ
def oF:List Nat→Hp→Hp
 | [],σ=>σ
 |i::r,σ=>pull i (oF r σ)
inductive jv:Hp→Hp→Prop where
 |refl (σ:Hp):jv σ σ
 |pull (js:List Nat) {σ σ2:Hp} (h:jv (oF js σ) σ2):jv σ σ2
 |drop (k n:Nat) {σ σ2:Hp} (h:jv (σ.take k++σ.drop (k+n)) σ2):jv σ σ2
 |perm {σ ko σ2:Hp} (hp:ko.Perm σ) (h:jv ko σ2):jv σ σ2
 |ahT (i b':Nat) (cs kT:List AV) {σ σ2:Hp} (hi:σ[i]?=some (b',cs)) (hl:kT.length=cs.length) (hk:∀(k:Nat) (x y:AV),cs[k]?=some x→kT[k]?=some y→x=y∨(x=.ai∧∃e:Sh,y=.ae e [])) (h:jv (σ.set i (b',kT)) σ2):jv σ σ2
inductive eO(b off len es:Nat)(e:Sh)(l:List e.T):AV→AV→Prop where
 |here:eO b off len es e l (.af b off len es) (.ae e l)
 |refl (x:AV):eO b off len es e l x x
 |tup (xs ys:List AV) (h:xs.length=ys.length) (hi:∀(i:Nat) (x y:AV),xs[i]?=some x→ys[i]?=some y→eO b off len es e l x y):eO b off len es e l (.tup xs) (.tup ys)
 |agg (xs ys:List AV) (h:xs.length=ys.length) (hl:∀(i:Nat) (y:AV),ys[i]?=some y→y.leaf=true) (hi:∀(i:Nat) (x y:AV),xs[i]?=some x→ys[i]?=some y→eO b off len es e l x y):eO b off len es e l (.agg xs) (.agg ys)
 |nil (e':Sh):eO b off len es e l .ai (.ae e' [])
 |gQ (e':Sh):eO b off len es e l .gQ (.ae e' [])
 |via {x y:AV} (h:eO b off len es e l x y):eO b off len es e l (.via x) y
inductive CallAt(P:Program)(f:FuncId)(K:AV→Hp→Prop):List AV→Hp→Prop where
 |mk {args:List AV} {σ:Hp} (js:List Nat) (R:AV→Hp→Prop) (call:ACalls P f args (oF js σ) R) (go:∀r σ',R r σ'→K r σ'):CallAt P f K args σ
 |perm {args:List AV} {σ σ2:Hp} (R:AV→Hp→Prop) (hp:σ2.Perm σ) (call:ACalls P f args σ2 R) (go:∀r σ',R r σ'→∃ew,ew.Perm σ'∧K r ew):CallAt P f K args σ
 |cJ {args args':List AV} {σ:Hp} (j b off len es:Nat) (cs:List AV) (e:Sh) (l:List e.T) (h1:σ[j]?=some (b,cs)) (h2:(cs.drop off).take (len*es)=l.flatMap e.cells) (h3:l.length=len∧e.size=es∧0<es) (h4:eO b off len es e l (.tup args) (.tup args')) (h:CallAt P f K args' (σ.eraseIdx j)):CallAt P f K args σ
 |kl {args:List AV} {σ:Hp} (j b off len es:Nat) (cs:List AV) (e:Sh) (l:List e.T) (h1:σ[j]?=some (b,cs)) (h2:(cs.drop off).take (len*es)=l.flatMap e.cells) (h3:l.length=len∧e.size=es∧0<es) (i k b':Nat) (cs':List AV) (hi:(σ.eraseIdx j)[i]?=some (b',cs')) (hk:cs'[k]?=some (.af b off len es)) (h:CallAt P f K args ((σ.eraseIdx j).set i (b',cs'.set k (.ae e l)))):CallAt P f K args σ
inductive tX(P:Program)(f:FuncId)(args:List AV)(σ:Hp)(K:AV→Prop):Prop where
 |mk (js:List Nat) (r:AV) (call:ACalls P f args (oF js σ) (fun r' σ'=>r'=r∧σ'=oF js σ)) (go:K r):tX P f args σ K
 |perm {σ2:Hp} (hp:σ2.Perm σ) (r:AV) (call:ACalls P f args σ2 (fun r' σ'=>r'=r∧σ2.Perm σ')) (go:K r):tX P f args σ K
def Iv(P:Program)(l:Nat)(args:List AV)(σ:Hp)(R:AV→Hp→Prop):Prop:=
 ∀F w vs,ji F w args vs→bu F w σ→∃f tmps assign body,(Instr.yield l vs).run P w=.ok (.round l f tmps assign body) w∧
  RoundIn Fence.wide 0 P l f tmps assign body w fun e w'=>∃r v σ' F',e=.returned v∧bH F w F' w'∧bu F' w' σ'∧aA F' w' r v∧R r σ'
inductive xE(P:Program)(l:Nat)(K:AV→Hp→Prop):List AV→Hp→Prop where
 |mk {args:List AV} {σ:Hp} (js:List Nat) (R:AV→Hp→Prop) (call:Iv P l args (oF js σ) R) (go:∀r σ',R r σ'→K r σ'):xE P l K args σ
 |perm {args:List AV} {σ σ2:Hp} (R:AV→Hp→Prop) (hp:σ2.Perm σ) (call:Iv P l args σ2 R) (go:∀r σ',R r σ'→∃ew,ew.Perm σ'∧K r ew):xE P l K args σ
section
variable (P:Program) (TT:TypeId→Option TI)
def Meth(t:TypeId)(m:String)(g:FuncId):Prop:=
 ∀(a:Addr) (w:World),(method (P.types.size+Made.depth) t (.pointer (some a)) m).run P w=.ok (g,.pointer (some a)) w
inductive InvAt(t:TypeId)(m:String)(K:FuncId→Prop):Prop where
 |mk (g:FuncId) (h:Meth P t m g) (go:K g):InvAt t m K
def qt(c:Call)(ρ:Operand→AV)(K:FuncId→List AV→Prop)(KY:Nat→List AV→Prop):Prop:=
 match c.callee with
 |.value f=>match ρ f with
  |.fn (.func g) first cap=>K g (first++(c.args.toList.map fun x=>bU (ρ x))++cap)
  |.fn (.yield l) [] []=>KY l (c.args.toList.map fun x=>bU (ρ x))
  |_=>False
 |.invoke r m=>match ρ r with
  |.iface t (.ptr b o)=>InvAt P t m fun g=>K g (.ptr b o::c.args.toList.map fun x=>bU (ρ x))
  |.iface t (.gi cs)=>InvAt P t m fun g=>K g (.gi cs::c.args.toList.map fun x=>bU (ρ x))
  |_=>False
 |.builtin _=>False
inductive kf(σ:Hp)(es:Nat):AV→Nat→List AV→Prop where
 |ai:kf σ es .ai 0 []
 |kI:kf σ es .kI 0 []
 |gQ:kf σ es .gQ 0 []
 |ae (s:Sh) (l:List s.T) (h:s.size=es):kf σ es (.ae s l) l.length (l.flatMap s.cells)
 |af (j b off len:Nat) (cs:List AV) (h1:σ[j]?=some (b,cs)) (h2:off+len*es≤cs.length):kf σ es (.af b off len es) len ((cs.drop off).take (len*es))
inductive H2(i:TI)(σ:Hp)(s x:AV)(K:AV→Hp→Prop):Prop where
 |fresh (n:Nat) (new:List AV) (hs:s=.ai∨s=.kI) (hx:kf σ i.size x n new) (hn:n≤1048576) (hb:i.bytes≤1024) (h0:0<i.size) (go:n≠0→∀b,K (.af b 0 n i.size) ((b,new)::σ)) (same:n=0→K s σ)
 |more (j b len n:Nat) (cs new:List AV) (hs:s=.af b 0 len i.size) (h1:σ[j]?=some (b,cs)) (h2:len*i.size≤cs.length) (hx:kf σ i.size x n new) (hn:len+n≤1048576) (hb:i.bytes≤1024) (h0:0<i.size)
   (go:∀b',K (.af b' 0 (len+n) i.size) ((b',cs.take (len*i.size)++new)::σ.eraseIdx j)):H2 i σ s x K
 |Bq (j b off len n:Nat) (cs new:List AV) (hs:s=.af b off len i.size) (h1:σ[j]?=some (b,cs)) (h2:off+len*i.size≤cs.length) (hx:kf σ i.size x n new) (hn:len+n≤1048576) (hb:i.bytes≤1024) (h0:0<i.size)
   (xX:K (.af b off (len+n) i.size) ((b,cs.take (off+len*i.size)++new)::σ.eraseIdx j))
   (go:∀b',K (.af b' 0 (len+n) i.size) ((b',(cs.drop off).take (len*i.size)++new)::σ.eraseIdx j)):H2 i σ s x K
inductive AppendAt(i:TI)(σ:Hp)(s x:AV)(K:AV→Hp→Prop):Prop where
 |fresh (n:Nat) (new:List AV) (hs:s=.ai∨s=.kI) (hx:kf σ i.size x n new) (hn:n≤1048576) (hb:i.bytes≤1024) (h0:0<i.size) (go:n≠0→∀b,K (.af b 0 n i.size) ((b,new)::σ)) (same:n=0→K s σ)
 |more (j b len n:Nat) (cs new:List AV) (hs:s=.af b 0 len i.size) (h1:σ[j]?=some (b,cs)) (h2:len*i.size≤cs.length) (hx:kf σ i.size x n new) (hn:len+n≤1048576) (hb:i.bytes≤1024) (h0:0<i.size)
   (go:∀b',K (.af b' 0 (len+n) i.size) ((b',cs.take (len*i.size)++new)::σ.eraseIdx j)):AppendAt i σ s x K
 |Bq (j b off len n:Nat) (cs new:List AV) (hs:s=.af b off len i.size) (h1:σ[j]?=some (b,cs)) (h2:off+len*i.size≤cs.length) (hx:kf σ i.size x n new) (hn:len+n≤1048576) (hb:i.bytes≤1024) (h0:0<i.size)
   (xX:K (.af b off (len+n) i.size) ((b,cs.take (off+len*i.size)++new)::σ.eraseIdx j))
   (go:∀b',K (.af b' 0 (len+n) i.size) ((b',(cs.drop off).take (len*i.size)++new)::σ.eraseIdx j)):AppendAt i σ s x K
 |perm {σ2:Hp} (K2:AV→Hp→Prop) (hp:σ2.Perm σ) (h:H2 i σ2 s x K2) (hk:∀v ew,K2 v ew→∃zS,zS.Perm ew∧(K v zS∨(v.leaf=true∧K (.via v) zS))):AppendAt i σ s x K
inductive DT(i:TI)(σ:Hp)(s x:AV)(K:AV→Hp→Prop):Prop where
 |ai (k:IntKind) (n:Int) (hs:s=.ai) (hx:x=.int k n) (hn:0≤n∧n≤1048576) (hb:i.bytes≤1024) (h0:0<i.size) (go:0<n→∀b,K (.af b 0 n.toNat i.size) ((b,cD i.zero n.toNat)::σ)) (same:n=0→K .ai σ):DT i σ s x K
inductive MM(i:TI)(σ:Hp)(s:AV)(K:Hp→Prop):Prop where
 |none (hs:s=.ai∨s=.kI∨s=.gQ) (go:K σ)
 |af (j b off len:Nat) (cs:List AV) (hs:s=.af b off len i.size) (h1:σ[j]?=some (b,cs)) (h2:off+len*i.size≤cs.length) (go:K (σ.set j (b,fV cs off (cD i.zero len))))
inductive Nc(i:TI)(σ:Hp)(d x:AV)(K:AV→Hp→Prop):Prop where
 |af (j b off len n:Nat) (cs new:List AV) (hd:d=.af b off len i.size) (h1:σ[j]?=some (b,cs)) (h2:off+len*i.size≤cs.length) (hx:kf σ i.size x n new) (hn:n≤len) (go:K (.int .i64 n) (σ.set j (b,fV cs off new)))
 |none (new:List AV) (hd:d=.ai∨d=.kI∨d=.gQ) (hx:kf σ i.size x 0 new) (go:K (.int .i64 0) σ)
 |part (j b off len:Nat) (cs:List AV) (hd:d=.af b off len i.size) (h1:σ[j]?=some (b,cs)) (h2:off+len*i.size≤cs.length) (j2 b2 nH n:Nat) (kT:List AV) (hx:x=.af b2 nH n i.size) (h3:σ[j2]?=some (b2,kT)) (h4:nH+n*i.size≤kT.length) (hn:len≤n) (go:K (.int .i64 len) (σ.set j (b,fV cs off ((kT.drop nH).take (len*i.size)))))
def A3(t:TypeId)(m k x:AV)(σ:Hp)(K:AV→Hp→Prop):Prop:=
 match BH TT t,k,x with
 |some _,.int .i64 n,.int .i64 v=>IW σ m fun j b l=>K .any (σ.set j (b,[.oP (rV l n v)]))
 |_,_,_=>False
def H7(t:TypeId)(m:AV)(σ:Hp)(K:AV→Hp→Prop):Prop:=
 match BH TT t with
 |some _=>IW σ m fun _ b l=>∀r,K (.nT r) ((r,[.sK b l.length []])::σ)
 |none=>False
inductive Na(σ:Hp)(x:AV)(K:AV→Hp→Prop):Prop where
 |mk (j j2 r b:Nat) (l:List (Int×Int)) (seen:List Nat) (hx:x=.nT r) (h1:σ[j]?=some (r,[.sK b l.length seen])) (h2:σ[j2]?=some (b,[.oP l]))
   (stop:(∀i:Nat,i<l.length→i∈seen)→K (.tup [.bool false]) σ)
   (go:∀(i:Nat) (p:Int×Int),l[i]?=some p→i ∉ seen→K (.tup [.bool true,.int .i64 p.1,.int .i64 p.2]) (σ.set j (r,[.sK b l.length (seen++[i])]))):Na σ x K
inductive ML(σ:Hp)(x:AV)(K:AV→Hp→Prop):Prop where
 |mk (j j2 r b i:Nat) (l:List (Int×Int)) (p:Int×Int) (seen:List Nat) (hx:x=.nT r) (h1:σ[j]?=some (r,[.sK b l.length (seen++[i])])) (h2:σ[j2]?=some (b,[.oP l])) (h3:l[i]?=some p)
   (go:K (.tup [.int .i64 p.1,.int .i64 p.2]) σ):ML σ x K
def ig(o:Op)(ρ:Operand→AV)(σ:Hp)(K:AV→Hp→Prop):Prop:=
 match o with
 |.box _ x=>match (ρ x).cells? with | some cs=>∀b,K (.ptr b 0) ((b,cs)::σ) | none=>False
 |.alloc e=>match TT e with | some i=>∀b,K (.ptr b 0) ((b,i.zero)::σ) | none=>False
 |.buildSlice t len parts=>match TT t with
  |some ⟨.slice e,_,_,_⟩=>match TT e with
   |some i=>match sH ((List.range len).map fun j=>(j*i.size,i.size)) (cD i.zero len) (parts.toList.map fun p=>(p.1,ρ p.2)),Nat.ble (len*i.size) 16777216,Nat.ble 1 i.size with
    |some cs,true,true=>∀b,K (.af b 0 len i.size) ((b,cs)::σ)
    |_,_,_=>False
   |none=>False
  |_=>False
 |.makeSlice t l c=>match TT t,ρ l,ρ c with
  |some ⟨.slice e,_,_,_⟩,.int _ n,.int _ m=>match TT e with
   |some i=>aG (0≤n∧n≤m∧m≤1048576∧i.bytes≤1024) (∀b,K (.af b 0 n.toNat i.size) ((b,cD i.zero n.toNat)::σ))
   |none=>False
  |_,_,_=>False
 |.store t a x=>match TT t with
  |some i=>match ρ a with | .ptr b o=>H0 i σ b o (ρ x) (fun σ'=>K .any σ') | _=>False
  |none=>False
 |.makeMap t none=>match BH TT t with | some _=>∀b,K (.nJ b) ((b,[.oP []])::σ) | none=>False
 |.mapUpdate t m k x=>A3 TT t (bU (ρ m)) (bU (ρ k)) (bU (ρ x)) σ K
 |.insert t m k x=>A3 TT t (bU (ρ m)) (bU (ρ k)) (bU (ρ x)) σ K
 |.range t x=>H7 TT t (bU (ρ x)) σ K
 |.next x s=>match s with | false=>Na σ (bU (ρ x)) K | true=>False
 |.entry x=>ML σ (bU (ρ x)) K
 |.call ⟨.builtin .append,args,cF⟩=>match args.toList,cF.toList with
  | [s,x],[t,t']=>match TT t,TT t' with
   |some ⟨.slice e,_,_,_⟩,some ⟨.slice _,_,_,_⟩=>match TT e with | some i=>AppendAt i σ (bU (ρ s)) (bU (ρ x)) K | none=>False
   |some ⟨.slice e,_,_,_⟩,some ⟨.int _,_,_,_⟩=>match TT e with | some i=>DT i σ (bU (ρ s)) (bU (ρ x)) K | none=>False
   |_,_=>False
  |_,_=>False
 |.call ⟨.builtin .clear,args,cF⟩=>match args.toList,cF.toList with
  | [s],[t]=>match TT t with
   |some ⟨.slice e,_,_,_⟩=>match TT e with | some i=>MM i σ (bU (ρ s)) (fun σ'=>K (.tup []) σ') | none=>False
   |_=>False
  |_,_=>False
 |.call ⟨.builtin .copy,args,cF⟩=>match args.toList,cF.toList with
  | [d,x],[t,t']=>match TT t,TT t' with
   |some ⟨.slice e,_,_,_⟩,some ⟨.slice _,_,_,_⟩=>match TT e with | some i=>Nc i σ (bU (ρ d)) (bU (ρ x)) K | none=>False
   |_,_=>False
  |_,_=>False
 |.call ⟨.builtin b,args,cF⟩=>fQ P TT (.call ⟨.builtin b,args,cF⟩) ρ σ (fun v=>K v σ)
 |.call c=>qt P c ρ (fun f xs=>CallAt P f K xs σ) (fun l xs=>xE P l K xs σ)
 |o=>fQ P TT o ρ σ (fun v=>K v σ)
def pH(ops:List Oper)(o:Oper)(t:Tm)(A B:Prop):Prop:=
 match o.guard with
 |none=>A
 |some (j,want)=>match (ops[j]?).bind (·.dst) with
  |some d=>match t d with
   |.bool b=>(match want,b with | true,true=>A | true,false=>B | false,true=>B | false,false=>A)
   |.tup []=>B
   |_=>False
  |none=>False
def WR(ops:List Oper)(l:List Oper):Tm→Hp→(Tm→Hp→Prop)→Prop:=
 List.rec (motive:=fun _=>Tm→Hp→(Tm→Hp→Prop)→Prop) (fun t σ K=>K t σ)
  (fun o _ ih t σ K=>pH ops o t (ig P TT o.op (ev t) σ fun v σ'=>ih (put t o.dst v) σ' K) (ih (put t o.dst (.tup [])) σ K)) l
def we(o:Op)(ρ:Operand→AV)(σ:Hp)(K:AV→Prop):Prop:=
 match o with
 |.call ⟨.builtin b,args,cF⟩=>fQ P TT (.call ⟨.builtin b,args,cF⟩) ρ σ K
 |.call c=>qt P c ρ (fun f xs=>tX P f xs σ K) (fun _ _=>False)
 |o=>fQ P TT o ρ σ K
def I0(ops:List Oper)(l:List Oper):Tm→Hp→(Tm→Prop)→Prop:=
 List.rec (motive:=fun _=>Tm→Hp→(Tm→Prop)→Prop) (fun t _ K=>K t)
  (fun o _ ih t σ K=>pH ops o t (we P TT o.op (ev t) σ fun v=>ih (put t o.dst v) σ K) (ih (put t o.dst (.tup [])) σ K)) l
def blind:Op→Bool
 |.move _ | .assign _ | .pick .. | .build .. | .nilCheck _ | .binOp .. | .unOp .. | .convert .. | .makeInterface .. | .makeFunc .. | .slice .. | .fieldAddr .. | .field .. | .indexAddr .. | .extract .. | .typeAssert .. => true
 |.call ⟨.builtin .len,_,_⟩ | .call ⟨.builtin .min,_,_⟩ | .call ⟨.builtin .max,_,_⟩=>true
 |_=>false
def jd(ops:List Oper)(ax:List Bool):List Nat:=
 (List.range ops.length).filter fun i=> !ax.getD i true&&(match ops[i]? with | some o=>o.after.toList.all fun e=> !Region.binds .any e||ax.getD e.on false | none=>false)
def BF(ops:List Oper)(i:Nat)(t:Tm)(σ:Hp)(K:Tm→Hp→Prop):Prop:=
 match ops[i]? with
 |some o=>pH ops o t (ig P TT o.op (ev t) σ fun v σ'=>K (put t o.dst v) σ') (K (put t o.dst (.tup [])) σ)
 |none=>False
def Og(f:Nat→Prop)(l:List Nat):Prop:=
 List.rec (motive:=fun _=>Prop) True (fun i r ih=>match r with | []=>f i | _=>f i∧ih) l
def tO:Op→Bool
 |.load _ _=>true
 |_=>false
def oT(o:Op):Bool:= !(blind o||tO o)
def qw(o:Oper)(j:Nat):Bool:=o.after.toList.any fun e=>Region.binds .any e&&Nat.beq e.on j
def agX(ops:List Oper)(ax:List Bool)(i:Nat):Bool:=ops.zipIdx.all fun (o,j)=> !oT o.op||ax.getD j false||qw o i
def MZ(ops:List Oper)(ax:List Bool)(i:Nat):Bool:=
 match ops[i]? with
 |some o=>blind o.op||(tO o.op&&agX ops ax i)
 |none=>false
def vT(ops:List Oper)(n:Nat):List Bool→Tm→Hp→(Tm→Hp→Prop)→Prop:=
 Nat.rec (motive:=fun _=>List Bool→Tm→Hp→(Tm→Hp→Prop)→Prop) (fun _ _ _ _=>False)
  (fun _ ih ax t σ K=>match jd ops ax with
   | []=>K t σ
   |i::r=>match (i::r).find? (MZ ops ax) with
    |some j=>BF P TT ops j t σ fun t' σ'=>ih (ax.set j true) t' σ' K
    |none=>Og (fun j=>BF P TT ops j t σ fun t' σ'=>ih (ax.set j true) t' σ' K) (i::r)) n
theorem Su{ops:List Oper}{n:Nat}{ax:List Bool}{t:Tm}{σ:Hp}{K:Tm→Hp→Prop}:vT P TT ops (n+1) ax t σ K=(match jd ops ax with
   | []=>K t σ
   |i::r=>match (i::r).find? (MZ ops ax) with
    |some j=>BF P TT ops j t σ fun t' σ'=>vT P TT ops n (ax.set j true) t' σ' K
    |none=>Og (fun j=>BF P TT ops j t σ fun t' σ'=>vT P TT ops n (ax.set j true) t' σ' K) (i::r)):=rfl
def zg(ops:List Oper)(o:Oper):List Tmp:=
 (o.op.operands.toList.filterMap fun | .tmp t=>some t | _=>none)++(match o.guard with | some (g,_)=>((ops[g]?).bind (·.dst)).toList | none=>[])
def HD(ops:List Oper):Bool:=
 let z:=ops.zipIdx
 z.all fun (o,i)=>
  (o.after.toList.all fun e=> !Region.binds .any e||Nat.blt e.on i) &&
  (z.all fun (p,j)=>match p.dst with
   |none=>true
   |some d=>(Nat.beq i j||match o.dst with | some d'=> !Nat.beq d d' | none=>true) &&
    (!(zg ops o).any (Nat.beq d)||Nat.beq i j||(Nat.blt j i&&qw o j)||(Nat.blt i j&&qw p i)))
def su(ops:List Oper):Bool:=
 let z:=ops.zipIdx
 z.all fun (o,i)=>(match o.op with | .select .. => false | _=>true)&&z.all fun (p,j)=>Nat.beq i j||qw o j||qw p i||o.apart ops.toArray p
def eT(g:Tm):List (Nat×AV)→Tm
 | []=>g
 |(i,v)::r=>fun j=>match Nat.beq j i with | true=>v | false=>eT g r j
def agree(t:Tm):List (Nat×AV)→Prop
 | []=>True
 |(i,v)::r=>t i=v∧agree t r
theorem AT{t:Tm}{l:List (Nat×AV)}(h:agree t l):t=eT t l:=by
 induction l with
 |nil=>rfl
 |cons p r ih=>
  obtain⟨i,v⟩:=p
  obtain⟨h1,h2⟩:=h
  funext j
  show t j=(match Nat.beq j i with | true=>v | false=>eT t r j)
  cases hb:Nat.beq j i with
  |true=>rw[jN hb];exact h1
  |false=>exact congrFun (ih h2) j
inductive dm{S:Type}(L:S→List (Nat×AV))(H:S→Hp)(t':Tm)(σ':Hp):Prop where
 |mk (s:S) (h3:agree t' (L s)) (h4:jv σ' (H s)):dm L H t' σ'
def jV(ops:List Oper)(q:Bool)(i:Nat)(t:Tm)(σ:Hp)(K:Tm→Hp→Prop):Prop:=
 match ops[i]? with
 |some o=>match q with
  |true=>pH ops o t (we P TT o.op (ev t) σ fun v=>K (put t o.dst v) σ) (K (put t o.dst (.tup [])) σ)
  |false=>pH ops o t (ig P TT o.op (ev t) σ fun v σ'=>K (put t o.dst v) σ') (K (put t o.dst (.tup [])) σ)
 |none=>False
def fh(j:Nat)(l:List Nat):Bool:=l.any (Nat.beq j)
def qL(ops:List Oper)(Q:List Nat)(n:Nat):List Bool→Tm→Hp→(Tm→Hp→Prop)→Prop:=
 Nat.rec (motive:=fun _=>List Bool→Tm→Hp→(Tm→Hp→Prop)→Prop) (fun _ _ _ _=>False)
  (fun _ ih ax t σ K=>(jd ops ax=[]→K t σ)∧∀i∈jd ops ax,jV P TT ops (fh i Q) i t σ fun t' σ'=>ih (ax.set i true) t' σ' K) n
def NM(o:Oper)(acc:List (List Nat)):List Nat:=o.after.toList.flatMap fun e=>match Region.binds .any e with | true=>e.on::(acc[e.on]?).getD [] | false=>[]
def Nd:List Oper→List (List Nat)→List (List Nat)
 | [],acc=>acc
 |o::os,acc=>Nd os (acc++[(NM o acc).eraseDups])
def vR(ops:List Oper)(Q:List Nat)(k:Nat):Bool:=match ops[k]? with | some o=>oT o.op&&!fh k Q | none=>false
def ID:Op→Bool
 |.alloc _ | .box _ _=>true
 |_=>false
def EC(ops:List Oper)(k:Nat):Bool:=match ops[k]? with | some o=>ID o.op | none=>false
def Bi(ops:List Oper)(rows:List (List Nat))(Q:List Nat)(ax:List Bool)(j:Nat):Bool:=
 match ops[j]? with
 |some o=>(blind o.op&&!fh j Q)||((tO o.op||fh j Q)&&(List.range ops.length).all fun k=>ax.getD k false||!vR ops Q k||fh j ((rows[k]?).getD [])||(tO o.op&&!fh j Q&&EC ops k))
 |none=>false
inductive rh where
 |stop
 |one (j:Nat) (q:Bool) (s:rh)
 |alt (j:Nat) (s r:rh)
 |BQ (j:Nat) (s r:rh)
def lO(ops:List Oper)(rows:List (List Nat))(Q:List Nat):rh→Nat→List Nat→List Bool→Bool
 |.stop,n,nG,ax=>match n,nG,jd ops ax with | _+1,[],[]=>true | _,_,_=>false
 |.one j q s,n,nG,ax=>match n,nG with
  |n+1,[]=>(fh j Q == q)&&fh j (jd ops ax)&&(Bi ops rows Q ax j||(match jd ops ax with | [i]=>Nat.beq i j | _=>false))&&lO ops rows Q s n [] (ax.set j true)
  |n,[i]=>(fh j Q == q)&&Nat.beq i j&&lO ops rows Q s n [] (ax.set j true)
  |_,_=>false
 |.alt j s r,n,nG,ax=>match n,nG with
  |n+1,[]=>(match jd ops ax with
   |i::i2::l=>Nat.beq i j&&!fh j Q&&lO ops rows Q s n [] (ax.set j true)&&lO ops rows Q r n (i2::l) ax
   |_=>false)
  |n,i::i2::l=>Nat.beq i j&&!fh j Q&&lO ops rows Q s n [] (ax.set j true)&&lO ops rows Q r n (i2::l) ax
  |_,_=>false
 |.BQ j s r,n,nG,ax=>match n,nG with
  |n+1,[]=>(match jd ops ax with
   |i::i2::l=>Nat.beq i j&&fh j Q&&lO ops rows Q s n [] (ax.set j true)&&lO ops rows Q r n (i2::l) ax
   |_=>false)
  |n,i::i2::l=>Nat.beq i j&&fh j Q&&lO ops rows Q s n [] (ax.set j true)&&lO ops rows Q r n (i2::l) ax
  |_,_=>false
def vM(ops:List Oper)(s:rh):Tm→Hp→(Tm→Hp→Prop)→Prop:=
 rh.rec (motive:=fun _=>Tm→Hp→(Tm→Hp→Prop)→Prop) (fun t σ K=>K t σ)
  (fun j q _ ih t σ K=>jV P TT ops q j t σ fun t' σ'=>ih t' σ' K)
  (fun j _ _ ih jZ t σ K=>jV P TT ops false j t σ (fun t' σ'=>ih t' σ' K)∧jZ t σ K)
  (fun j _ _ ih jZ t σ K=>jV P TT ops true j t σ (fun t' σ'=>ih t' σ' K)∧jZ t σ K) s
def ahr:Op→Bool
 |.call ⟨.builtin _,_,_⟩=>false
 |.call _=>true
 |_=>false
def H8(ops:List Oper)(Q:List Nat)(s:rh):Bool:=
 su ops&&Q.all (fun j=>match ops[j]? with | some o=>ahr o.op | none=>false)&&lO ops (Nd ops []) Q s (ops.length+1) [] (List.replicate ops.length false)
inductive gq(ops:List Oper)(K:Tm→Hp→Prop):Tm→Hp→Prop where
 |quiet {t:Tm} {σ:Hp} (h0:HD ops=true) (h:I0 P TT ops ops t σ fun t'=>K t' σ):gq ops K t σ
 |each {t:Tm} {σ:Hp} (h0:su ops=true) (h:vT P TT ops (ops.length+1) (List.replicate ops.length false) t σ K):gq ops K t σ
 |sched {t:Tm} {σ:Hp} (Q:List Nat) (s:rh) (h0:H8 ops Q s=true) (h:vM P TT ops s t σ K):gq ops K t σ
 |meet {t:Tm} {σ:Hp} {S:Type} (L:S→List (Nat×AV)) (H:S→Hp) (h0:su ops=true) (h:vT P TT ops (ops.length+1) (List.replicate ops.length false) t σ (dm L H)) (go:∀s g,K (eT g (L s)) (H s)):gq ops K t σ
 |IC {t:Tm} {σ:Hp} {S:Type} (Q:List Nat) (s:rh) (L:S→List (Nat×AV)) (H:S→Hp) (h0:H8 ops Q s=true) (h:vM P TT ops s t σ (dm L H)) (go:∀s g,K (eT g (L s)) (H s)):gq ops K t σ
 |cJ {t t':Tm} {σ:Hp} (j b off len es:Nat) (cs:List AV) (e:Sh) (l:List e.T) (h1:σ[j]?=some (b,cs)) (h2:(cs.drop off).take (len*es)=l.flatMap e.cells) (h3:l.length=len∧e.size=es∧0<es) (h4:∀i,eO b off len es e l (t i) (t' i)) (h:gq ops K t' (σ.eraseIdx j)):gq ops K t σ
 |dO {t:Tm} {σ σ2:Hp} (h1:jv σ σ2) (h:gq ops K t σ2):gq ops K t σ
inductive Ex where
 |normal | exit (id:Nat) | goto (l:Nat) | ret
def Head{S:Type}(L:S→List (Nat×AV))(H:S→Hp)(p:S→Prop)(μ:S→Nat)(m:Nat)(t:Tm)(σ:Hp):Prop:=∃s g,m=μ s∧p s∧t=eT g (L s)∧σ=H s
inductive pN{S:Type}(L:S→List (Nat×AV))(H:S→Hp)(p:S→Prop)(μ:S→Nat)(s:S):Tm→Hp→Prop where
 |mk {t':Tm} {σ':Hp} (s':S) (h1:μ s'<μ s) (h2:p s') (h3:agree t' (L s')) (h4:jv σ' (H s')):pN L H p μ s t' σ'
 |cJ {t' t2:Tm} {σ':Hp} (j b off len es:Nat) (cs:List AV) (e:Sh) (l:List e.T) (h1:σ'[j]?=some (b,cs)) (h2:(cs.drop off).take (len*es)=l.flatMap e.cells) (h3:l.length=len∧e.size=es∧0<es) (h4:∀i,eO b off len es e l (t' i) (t2 i)) (h:pN L H p μ s t2 (σ'.eraseIdx j)):pN L H p μ s t' σ'
 |kl {t':Tm} {σ':Hp} (j b off len es:Nat) (cs:List AV) (e:Sh) (l:List e.T) (h1:σ'[j]?=some (b,cs)) (h2:(cs.drop off).take (len*es)=l.flatMap e.cells) (h3:l.length=len∧e.size=es∧0<es) (i k b':Nat) (cs':List AV) (hi:(σ'.eraseIdx j)[i]?=some (b',cs')) (hk:cs'[k]?=some (.af b off len es)) (h:pN L H p μ s t' ((σ'.eraseIdx j).set i (b',cs'.set k (.ae e l)))):pN L H p μ s t' σ'
 |dO {t':Tm} {σ' σ2:Hp} (h1:jv σ' σ2) (h:pN L H p μ s t' σ2):pN L H p μ s t' σ'
 |nil {t' t2:Tm} {σ':Hp} (h4:∀i,eO 0 0 0 0 .bool [] (t' i) (t2 i)) (h:pN L H p μ s t2 σ'):pN L H p μ s t' σ'
inductive mR(body:Tm→Hp→(Ex→Tm→Hp→Prop)→Prop)(Q:Ex→Tm→Hp→Prop):Tm→Hp→Prop where
 |mk {t:Tm} {σ:Hp} {S:Type} (L:S→List (Nat×AV)) (H:S→Hp) (p:S→Prop) (μ:S→Nat) (s0:S) (h0:p s0∧agree t (L s0)∧σ=H s0)
   (round:∀s g,p s→body (eT g (L s)) (H s) (fun e t' σ'=>match e with | .normal=>pN L H p μ s t' σ' | e=>Q e t' σ')):mR body Q t σ
 |cJ {t t':Tm} {σ:Hp} (j b off len es:Nat) (cs:List AV) (e:Sh) (l:List e.T) (h1:σ[j]?=some (b,cs)) (h2:(cs.drop off).take (len*es)=l.flatMap e.cells) (h3:l.length=len∧e.size=es∧0<es) (h4:∀i,eO b off len es e l (t i) (t' i)) (h:mR body Q t' (σ.eraseIdx j)):mR body Q t σ
 |dO {t:Tm} {σ σ2:Hp} (h1:jv σ σ2) (h:mR body Q t σ2):mR body Q t σ
 |wrap {t:Tm} {σ:Hp} (k:Nat) (v:AV) (h1:t k=v) (h2:v.leaf=true) (h:mR body Q (eT t [(k,.via v)]) σ):mR body Q t σ
 |nil {t t':Tm} {σ:Hp} (h4:∀i,eO 0 0 0 0 .bool [] (t i) (t' i)) (h:mR body Q t' σ):mR body Q t σ
def Wv(R:Nat→Tm→Hp→(Ex→Tm→Hp→Prop)→Prop)(k:Nat):Nat→Tm→Hp→(Ex→Tm→Hp→Prop)→Prop:=
 Nat.rec (motive:=fun _=>Nat→Tm→Hp→(Ex→Tm→Hp→Prop)→Prop) (fun _ _ _ _=>False)
  (fun _ ih l t σ Q=>R l t σ fun e t' σ'=>match e with | .goto l'=>ih l' t' σ' Q | e=>Q e t' σ') k
inductive rS{S:Type}(gk:S→Nat)(L:S→List (Nat×AV))(H:S→Hp)(p:S→Prop)(μ:S→Nat)(s:S)(l:Nat):Tm→Hp→Prop where
 |mk {t':Tm} {σ':Hp} (s':S) (h0:l=gk s') (h1:μ s'<μ s) (h2:p s') (h3:agree t' (L s')) (h4:jv σ' (H s')):rS gk L H p μ s l t' σ'
 |cJ {t' t2:Tm} {σ':Hp} (j b off len es:Nat) (cs:List AV) (e:Sh) (d:List e.T) (h1:σ'[j]?=some (b,cs)) (h2:(cs.drop off).take (len*es)=d.flatMap e.cells) (h3:d.length=len∧e.size=es∧0<es) (h4:∀i,eO b off len es e d (t' i) (t2 i)) (h:rS gk L H p μ s l t2 (σ'.eraseIdx j)):rS gk L H p μ s l t' σ'
 |kl {t':Tm} {σ':Hp} (j b off len es:Nat) (cs:List AV) (e:Sh) (d:List e.T) (h1:σ'[j]?=some (b,cs)) (h2:(cs.drop off).take (len*es)=d.flatMap e.cells) (h3:d.length=len∧e.size=es∧0<es) (i k b':Nat) (cs':List AV) (hi:(σ'.eraseIdx j)[i]?=some (b',cs')) (hk:cs'[k]?=some (.af b off len es)) (h:rS gk L H p μ s l t' ((σ'.eraseIdx j).set i (b',cs'.set k (.ae e d)))):rS gk L H p μ s l t' σ'
 |dO {t':Tm} {σ' σ2:Hp} (h1:jv σ' σ2) (h:rS gk L H p μ s l t' σ2):rS gk L H p μ s l t' σ'
 |nil {t' t2:Tm} {σ':Hp} (h4:∀i,eO 0 0 0 0 .bool [] (t' i) (t2 i)) (h:rS gk L H p μ s l t2 σ'):rS gk L H p μ s l t' σ'
inductive rT(R:Nat→Tm→Hp→(Ex→Tm→Hp→Prop)→Prop)(l:Nat)(Q:Ex→Tm→Hp→Prop):Tm→Hp→Prop where
 |fwd {t:Tm} {σ:Hp} (k:Nat) (h:Wv R k l t σ Q):rT R l Q t σ
 |loop {t:Tm} {σ:Hp} {S:Type} (gk:S→Nat) (L:S→List (Nat×AV)) (H:S→Hp) (p:S→Prop) (μ:S→Nat) (s0:S) (h0:l=gk s0∧p s0∧agree t (L s0)∧jv σ (H s0))
   (round:∀s g,p s→R (gk s) (eT g (L s)) (H s) (fun e t' σ'=>match e with | .goto l'=>rS gk L H p μ s l' t' σ' | e=>Q e t' σ')):rT R l Q t σ
 |cJ {t t':Tm} {σ:Hp} (j b off len es:Nat) (cs:List AV) (e:Sh) (d:List e.T) (h1:σ[j]?=some (b,cs)) (h2:(cs.drop off).take (len*es)=d.flatMap e.cells) (h3:d.length=len∧e.size=es∧0<es) (h4:∀i,eO b off len es e d (t i) (t' i)) (h:rT R l Q t' (σ.eraseIdx j)):rT R l Q t σ
 |dO {t:Tm} {σ σ2:Hp} (h1:jv σ σ2) (h:rT R l Q t σ2):rT R l Q t σ
 |wrap {t:Tm} {σ:Hp} (k:Nat) (v:AV) (h1:t k=v) (h2:v.leaf=true) (h:rT R l Q (eT t [(k,.via v)]) σ):rT R l Q t σ
def NH(l:Nat)(rd:AV)(dn:Ex→AV)(R1:Ex→Hp→Prop)(r:AV)(σ':Hp):Prop:=
 (r=.bool true∧∃σ2,σ'=(l,[rd])::σ2∧R1 .normal σ2)∨(r=.bool false∧∃e σ2,e≠.normal∧σ'=(l,[dn e])::σ2∧R1 e σ2)
def agW(l:Nat)(rd:AV)(dn:Ex→AV)(K:Ex→Hp→Prop)(_:AV)(σ':Hp):Prop:=
 (∃σ2,σ'=(l,[rd])::σ2∧K .normal σ2)∨(∃e σ2,e≠.normal∧σ'=(l,[dn e])::σ2∧K e σ2)
inductive Bl(P:Program)(gf:FuncId)(cap:List AV)(m:Nat)(B:List AV→Hp→(Ex→Hp→Prop)→Prop)(K:Ex→Hp→Prop):Hp→Prop where
 |mk {σ:Hp} (go:∀(l:Nat) (rd:AV) (dn:Ex→AV),(∀(xs:List AV) (ko:Hp) (R1:Ex→Hp→Prop),xs.length=m→B xs ko R1→Iv P l xs ((l,[rd])::ko) (NH l rd dn R1))→
   ACalls P gf (.fn (.yield l) [] []::cap) ((l,[rd])::σ) (agW l rd dn K)):Bl P gf cap m B K σ
 |dO {σ σ2:Hp} (h1:jv σ σ2) (h:Bl P gf cap m B K σ2):Bl P gf cap m B K σ
def BY:List Tmp→List AV→Tm→Tm
 |p::ps,x::xs,t=>BY ps xs (put t (some p) x)
 |_,_,t=>t
def codeF(rec:Code→Tm→Hp→(Ex→Tm→Hp→Prop)→Prop)(c:Code)(t:Tm)(σ:Hp)(Q:Ex→Tm→Hp→Prop):Prop:=
 match c with
 |.skip=>Q .normal t σ
 |.label _=>Q .normal t σ
 |.exit id=>Q (.exit id) t σ
 |.goto l=>Q (.goto l) t σ
 |.ret=>Q .ret t σ
 |.region _ ops draw=>match draw with
  |false=>WR P TT ops.toList ops.toList t σ (Q .normal)
  |true=>gq P TT ops.toList (Q .normal) t σ
 |.seq a b=>rec a t σ fun e t' σ'=>match e with | .normal=>rec b t' σ' Q | e=>Q e t' σ'
 |.cond c a b=>match ev t c with | .bool x=>(match x with | true=>rec a t σ Q | false=>rec b t σ Q) | _=>False
 |.block id c=>rec c t σ fun e t' σ'=>match e with
  |.exit i=>(match Nat.beq i id with | true=>Q .normal t' σ' | false=>Q (.exit i) t' σ')
  |e=>Q e t' σ'
 |.loop c=>mR (fun t σ Q=>rec c t σ Q) Q t σ
 |.scope c=>rec c t σ fun e t' σ'=>match e with
  |.goto l=>rT (fun l t σ Q=>match findLabel c l with | some r=>rec r t σ Q | none=>False) l Q t' σ'
  |e=>Q e t' σ'
 |.rangeFunc g ps assign body=>match ev t g with
  |.fn (.func gf) [] cap=>Bl P gf cap ps.size (fun xs ko R1=>rec assign (BY ps.toList xs t) ko fun e t' σ'=>match e with | .normal=>rec body t' σ' (fun e _ kG=>R1 e kG) | _=>False) (fun e σ'=>Q e t σ') σ
  |_=>False
 |_=>False
def mQ(n:Nat):Code→Tm→Hp→(Ex→Tm→Hp→Prop)→Prop:=
 Nat.rec (motive:=fun _=>Code→Tm→Hp→(Ex→Tm→Hp→Prop)→Prop) (fun _ _ _ _=>False) (fun _ ih=>codeF P TT ih) n
end
def ua:List (Int×Int)→Int→Nat
 | [],_=>0
 |p::l,n=>if p.1=n then 0 else ua l n+1
theorem L1:∀(l:List (Int×Int)) (m i:Nat),(gr m l)[i]?=(l[i]?).map fun p=> { key:=.int .i64 p.1,val:=.int .i64 p.2,born:=m+i }
 | [],_,_=>by simp[gr]
 |p::l,m,0=>by simp[gr]
 |p::l,m,i+1=>by
  simp only[gr,List.getElem?_cons_succ]
  rw[L1 l (m+1) i]
  simp[Nat.add_assoc,Nat.add_comm 1 i]
theorem K5(n:Int):∀(l:List (Int×Int)) (m i:Nat),Instr.findNow (.int .i64) (.int .i64 n) (gr m l) i=some ((getM l n).map fun v=>(i+ua l n,.int .i64 v))
 | [],_,_=>rfl
 |p::l,m,i=>by
  have ih:=K5 n l (m+1) (i+1)
  unfold gr Instr.findNow
  simp only[Instr.sameNow,if_true]
  by_cases h:p.1=n
  ·rw[show (n == p.1)=true by simp[h]]
   simp[getM,ua,h]
  ·rw[show (n == p.1)=false by simp;exact fun e=>h e.symm]
   simp only[ih,getM,ua,ag h]
   congr 1
   cases getM l n with
   |none=>rfl
   |some v=>simp[Nat.add_assoc,Nat.add_comm 1]
theorem pos_at:∀(l:List (Int×Int)) (n v:Int),getM l n=some v→l[ua l n]?=some (n,v)∧∀x,rV l n x=l.set (ua l n) (n,x)
 | [],_,_,h=>by cases h
 |p::l,n,v,h=>by
  by_cases hp:p.1=n
  ·simp only[getM,ah hp,Option.some.injEq]at h
   simp only[ua,ah hp,rV]
   refine⟨?_,fun x=>rfl⟩
   rw[← hp,← h];rfl
  ·simp only[getM,ag hp]at h
   obtain⟨h1,h2⟩:=pos_at l n v h
   simp only[ua,ag hp,rV]
   exact⟨h1,fun x=>by rw[h2];rfl⟩
theorem Uq:∀(l:List (Int×Int)) (n x:Int),getM l n=none→rV l n x=l++[(n,x)]
 | [],_,_,_=>rfl
 |p::l,n,x,h=>by
  by_cases hp:p.1=n
  ·simp only[getM,ah hp]at h;cases h
  ·simp only[getM,ag hp]at h
   simp only[rV,ag hp,Uq l n x h];rfl
theorem RY:∀(l:List (Int×Int)) (m:Nat) (p:Int×Int),gr m (l++[p])=gr m l++[{ key:=.int .i64 p.1,val:=.int .i64 p.2,born:=m+l.length }]
 | [],_,_=>rfl
 |q::l,m,p=>by
  simp only[F4,gr,RY l (m+1) p,ik]
  rw[show m+1+l.length=m+(l.length+1) by omega]
theorem Tl:∀(l:List (Int×Int)) (m i:Nat) (p:Int×Int),gr m (l.set i p)=(gr m l).modify i fun e=> { e with key:=.int .i64 p.1,val:=.int .i64 p.2 }
 | [],_,_,_=>by simp[gr]
 |q::l,m,0,p=>by simp[gr]
 |q::l,m,i+1,p=>by simp[gr,Tl l (m+1) i p]
section
variable {P:Program} {w:World} {t k e:TypeId} {b:Nat} {l:List (Int×Int)}
theorem Ye(ht:P.underlying t=some (.map k e))(hk:P.underlying k=some (.int .i64)){z:Int}(hz:(zeroValue e).run P w=.ok (.int .i64 z) w)(hb:w.heap[b]?=some (.map (gr 0 l).toArray l.length))(n:Int)(c:Bool):
  (Instr.lookup t (.map (some b)) (.int .i64 n) c).run P w=.ok (if c then .tuple #[.int .i64 ((getM l n).getD z),.bool (getM l n).isSome] else .int .i64 ((getM l n).getD z)) w:=by
 have hf:=K5 n l 0 0
 have BK:MapKept.IsKey (.int .i64) (.int .i64 n):=by simp[MapKept.IsKey]
 cases h:getM l n with
 |none=>
  rw[h]at hf
  simp[Instr.lookup,run_underlying ht,MapKept.run_getObj_map hb,MapKept.run_checkKey hk BK,MapKept.run_findKey hk hf,hz,Result.andThen]
 |some v=>
  rw[h]at hf
  simp[Instr.lookup,run_underlying ht,MapKept.run_getObj_map hb,MapKept.run_checkKey hk BK,MapKept.run_findKey hk hf,Result.andThen]
theorem Yd(ht:P.underlying t=some (.map k e))(hk:P.underlying k=some (.int .i64))(hb:w.heap[b]?=some (.map (gr 0 l).toArray l.length))(n x:Int):
  (Instr.mapUpdate t (.map (some b)) (.int .i64 n) (.int .i64 x)).run P w=.ok () { w with heap:=w.heap.setIfInBounds b (.map (gr 0 (rV l n x)).toArray (rV l n x).length) }:=by
 have hf:=K5 n l 0 0
 have BK:MapKept.IsKey (.int .i64) (.int .i64 n):=by simp[MapKept.IsKey]
 cases h:getM l n with
 |none=>
  rw[h]at hf
  rw[Uq l n x h,RY]
  simp[Instr.mapUpdate,run_underlying ht,MapKept.run_getObj_map hb,MapKept.run_checkKey hk BK,MapKept.run_findKey hk hf,MapKept.run_setObj_map _ hb,Result.andThen]
 |some v=>
  rw[h]at hf
  obtain⟨h1,h2⟩:=pos_at l n v h
  rw[h2,Tl]
  have hg:(gr 0 l)[ua l n]?=some { key:=.int .i64 n,val:=.int .i64 v,born:=0+ua l n }:=by rw[L1,h1];rfl
  simp[Instr.mapUpdate,run_underlying ht,MapKept.run_getObj_map hb,MapKept.run_checkKey hk BK,MapKept.run_findKey hk hf,hg,MapKept.run_keyThatStays BK,MapKept.run_setObj_map _ hb,Result.andThen]
end
end Go.Proofs.YtnikdflhefijbaaGreat
