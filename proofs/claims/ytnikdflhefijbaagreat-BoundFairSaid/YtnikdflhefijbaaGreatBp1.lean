import Derived.Below
import Derived.BigQuiet
import Derived.Carry
import Derived.ChangeOld
import Derived.Deep.OwnRows
import Derived.Deep.QuietTactic
import Derived.Deep.Slices
import Derived.Handy
import Derived.Maps.AppendAt
import Derived.OpenShut
import Derived.ProofKit
import Derived.ShutString
import Derived.Stop.IfaceNil
import Derived.Test.YtnikdflhefijbaaGreatRows
import Derived.WalkKit
import Derived.WalkLawsBesides
import Derived.WalkSpells
namespace Go.Proofs.YtnikdflhefijbaaGreat
open Go.RowKit
abbrev aR:= @List.getD_eq_getElem?_getD
abbrev bc:= @List.getElem?_eq_getElem
abbrev bQ:= @List.getElem?_eq_some_iff
abbrev bH:= @List.mem_of_getElem?
abbrev a8:= @List.mem_singleton
abbrev bG:= @List.length_append
abbrev ag:= @if_pos
abbrev ah:= @if_neg
abbrev bV:= @List.mem_cons_self
abbrev aY:= @decide_eq_true
abbrev bU:= @Int.toNat_natCast
abbrev bL:= @Bool.and_eq_true
abbrev fQ:= @List.take_succ_eq_append_getElem
abbrev bP:= @List.mem_append
abbrev cE:= @List.mem_cons_of_mem
abbrev aM:= @Nat.le_refl
abbrev cT:= @Nat.le_of_ble_eq_true
abbrev b9:= @decide_eq_false
abbrev cb:= @List.length_map
abbrev eZ:= @List.take_of_length_le
abbrev ck:= @List.length_set
abbrev cD:= @List.getElem_mem
abbrev cM:= @List.map_append
abbrev gW:= @Array.getD_eq_getD_getElem?
abbrev bK:= @Nat.zero_le
abbrev iS:= @List.length_eq_zero_iff
abbrev dN:= @List.append_assoc
abbrev dY:= @List.getElem?_set
abbrev ij:= @List.getElem?_append_right
abbrev fZ:= @List.length_replicate
abbrev eU:= @List.getElem?_map
abbrev da:= @List.mem_cons
abbrev jG:= @List.getElem?_append_left
abbrev gJ:= @List.mem_append_left
abbrev cY:= @List.mem_map
abbrev fp:= @List.all_eq_true
abbrev fP:= @of_decide_eq_true
abbrev dK:= @Nat.zero_add
abbrev jr:= @Nat.eq_of_beq_eq_true
abbrev fO:= @List.length_cons
abbrev iR:= @Nat.mul_le_mul_right
abbrev fA:= @List.mem_range
abbrev jF:= @List.mem_append_right
abbrev lT:= @Int.toNat_of_nonneg
abbrev fy:= @Nat.le_trans
abbrev kI:= @List.mem_iff_getElem?
abbrev eo:= @Nat.mul_one
abbrev ig:= @List.take_length
abbrev mn:= @Int.eq_ofNat_of_zero_le
abbrev jq:= @Bool.not_eq_true'
abbrev iB:= @List.drop_zero
abbrev qb:= @List.mem_or_eq_of_mem_set
abbrev qa:= @Array.getElem?_eq_getElem
abbrev mm:= @List.length_pos_iff
abbrev lS:= @Bool.false_eq_true
abbrev jm:= @Nat.mul_le_mul
abbrev ki:= @List.mem_filter
abbrev oZ:= @List.nodup_append
abbrev lp:= @List.nodup_cons
abbrev nV:= @List.getElem?_take
abbrev uT:= @List.getElem?_replicate
abbrev ml:= @Nat.not_lt_zero
abbrev se:= @List.length_singleton
abbrev mX:= @List.append_nil
abbrev uS:= @List.getElem?_eq_none
abbrev oY:= @List.length_range
abbrev nU:= @List.perm_middle
abbrev nT:= @List.any_eq_true
abbrev tc:= @List.flatMap_append
abbrev p9:= @List.size_toArray
abbrev oX:= @List.mem_flatten
abbrev Cp:= @List.length_filter_le
abbrev lR:= @Nat.succ_mul
abbrev nS:= @List.map_set
abbrev yC:= @List.eq_of_mem_replicate
abbrev oW:= @Bool.or_eq_true
abbrev sd:= @of_decide_eq_false
abbrev sc:= @Nat.lt_of_lt_of_le
abbrev tb:= @List.length_reverse
abbrev sb:= @List.length_take
abbrev p8:= @Int.natCast_add
abbrev sa:= @List.foldl_append
abbrev uR:= @Nat.pow_le_pow_right
abbrev wY:= @Option.map_eq_some_iff
abbrev wX:= @Nat.testBit_lt_two_pow
abbrev lh:= @Nat.add_mul
abbrev lf:= @Int.le_refl
abbrev ta:= @List.pairwise_cons
abbrev yB:= @List.take_append_drop
abbrev r9:= @Nat.mod_eq_of_lt
abbrev oV:= @List.map_cons
abbrev Ad:= @Array.getElem?_eq_some_iff
abbrev wW:= @List.mem_iff_getElem
abbrev uQ:= @Nat.eq_zero_or_pos
abbrev wV:= @List.getElem?_drop
abbrev Co:= @List.length_pos_of_mem
abbrev wU:= @List.range_succ
abbrev r8:= @Int.natCast_mul
abbrev Cn:= @List.ext_getElem
abbrev wT:= @List.map_congr_left
abbrev wS:= @List.getElem?_range
abbrev qT:= @Nat.sub_self
abbrev Kl:= @Nat.ble_eq_true_of_le
abbrev uP:= @List.pairwise_map
abbrev Ac:= @List.getElem?_toArray
abbrev wR:= @Nat.lt_or_eq_of_le
abbrev qS:= @Bool.false_or
abbrev mW:= @Nat.mod_lt
abbrev Kk:= @Array.getElem?_append_left
abbrev yA:= @List.flatMap_cons
abbrev Cm:= @Array.toList_append
abbrev qR:= @Nat.zero_mul
abbrev Ab:= @List.filter_append
abbrev Kj:= @List.take_append_of_le_length
abbrev wQ:= @List.not_mem_nil
abbrev wP:= @List.mem_reverse
abbrev s9:= @Nat.pow_zero
abbrev yz:= @Nat.le_of_lt_succ
abbrev Ki:= @List.set_append_right
abbrev Cl:= @Array.getElem?_toList
abbrev r7:= @Nat.pow_add
abbrev FZ:= @List.pairwise_iff_getElem
abbrev Cj:= @Nat.eq_of_testBit_eq
abbrev yy:= @List.nil_append
abbrev Aa:= @List.ext_getElem?
abbrev Kh:= @Array.getElem?_setIfInBounds_ne
abbrev uO:= @Nat.mul_comm
abbrev uN:= @Nat.add_zero
abbrev Kg:= @List.eq_nil_iff_forall_not_mem
abbrev Kf:= @Array.eq_empty_of_size_eq_zero
abbrev wO:= @Nat.mul_assoc
abbrev FY:= @Nat.add_sub_cancel_left
abbrev Ci:= @Nat.add_assoc
abbrev Pr:= @List.replicate_succ
abbrev gn4:= @List.flatten_append
abbrev FX:= @List.filter_cons
abbrev Ke:= @List.getElem_replicate
abbrev FV:= @List.drop_of_length_le
abbrev FU:= @Array.size_eq_zero_iff
abbrev Ch:= @Nat.lt_of_le_of_lt
abbrev Cg:= @Bool.false_ne_true
abbrev Kd:= @Nat.testBit_two_pow_sub_one
abbrev go2:= @Nat.lt_or_ge
abbrev FT:= @List.eq_nil_or_concat
abbrev Cf:= @List.flatten_cons
abbrev Ce:= @List.any_eq_false
abbrev Kc:= @Int.tmod_eq_emod_of_nonneg
abbrev FR:= @List.mem_erase_of_ne
abbrev FQ:= @List.getElem?_of_mem
abbrev Kb:= @List.drop_eq_getElem_cons
abbrev Cd:= @List.nodup_range
abbrev Cc:= @List.cons_append
abbrev Pq:= @Array.length_toList
abbrev yx:= @Nat.beq_refl
abbrev Cb:= @Nat.two_pow_pos
abbrev Ka:= @Nat.testBit_mod_two_pow
abbrev J9:= @Nat.min_eq_left
abbrev gp7:= @Nat.add_sub_cancel
abbrev gp8:= @List.filter_cons_of_neg
abbrev Ca:= @List.all_append
abbrev FP:= @Int.natCast_nonneg
abbrev z8:= @Bool.true_and
abbrev Pp:= @List.nodup_nil
abbrev B9:= @List.drop_drop
abbrev z7:= @Nat.le_of_eq
abbrev Po:= @Nat.and_two_pow_sub_one_eq_mod
abbrev J8:= @Array.getElem?_modify
abbrev FO:= @Option.getD_some
abbrev FN:= @Nat.le_add_right
abbrev Pn:= @List.drop_append_of_le_length
abbrev J7:= @List.pairwise_append
abbrev Pm:= @List.mem_zipIdx_iff_getElem?
abbrev Pk:= @Nat.two_pow_add_eq_or_of_lt
abbrev Pj:= @Nat.testBit_two_pow_mul_add
abbrev J6:= @Nat.pos_iff_ne_zero
abbrev FM:= @Nat.log2_eq_iff
abbrev FL:= @Nat.and_le_left
abbrev FK:= @List.foldl_cons
abbrev J5:= @List.singleton_inj
abbrev J4:= @List.getElem_range
abbrev J3:= @Int.tmod_lt_of_pos
abbrev J1:= @Int.natAbs_natCast
abbrev J0:= @Int.emod_lt_of_pos
abbrev JZ:= @Bool.not_eq_false'
abbrev FJ:= @List.count_nil
abbrev Pg:= @Int.mul_neg_of_neg_of_pos
abbrev JY:= @Nat.or_lt_two_pow
abbrev JX:= @Bool.eq_false_iff
abbrev gs8:= @List.filter_cons_of_pos
abbrev FH:= @Bool.not_true
abbrev JW:= @List.length_drop
abbrev JV:= @List.getElem_set
abbrev JU:= @List.getElem_map
abbrev JT:= @List.countP_cons
abbrev JS:= @Option.map_some
abbrev JR:= @Nat.testBit_and
abbrev FG:= @Nat.lt_trans
abbrev Pf:= @List.perm_append_comm
abbrev JQ:= @List.map_map
abbrev Pe:= @List.length_mergeSort
abbrev gu0:= @List.filter_nil
abbrev gu1:= @List.any_append
abbrev JP:= @Int.natAbs_zero
abbrev FF:= @Int.lt_or_le
abbrev JO:= @Int.emod_nonneg
abbrev gu5:= @Bool.beq_eq_decide_eq
abbrev Pd:= @List.getElem?_set_ne
abbrev Pc:= @List.eraseIdx_set_eq
abbrev JN:= @Nat.testBit_or
abbrev JM:= @Int.natAbs_mul
abbrev JL:= @Bool.false_and
abbrev JK:= @Bool.and_false
abbrev Pb:= @Nat.testBit_two_pow
abbrev FE:= @Nat.one_mul
abbrev Pa:= @Nat.mul_le_mul_left
abbrev FD:= @Nat.mul_add
abbrev O9:= @List.mem_map_of_mem
abbrev gv7:= @List.filter_eq_self
abbrev JJ:= @Nat.lt_irrefl
abbrev JH:= @List.sum_cons
abbrev O8:= @List.mem_replicate
abbrev JG:= @Bool.and_true
theorem tU{w:World}{k:Nat}{o:Obj}(h:w.heap[k]?=some o):k<w.heap.size:=(Ad.1 h).1
theorem HA{w:World}{k i:Nat}{c:Array Value}{t:TypeId}{fz:Nat×Nat}(h:w.heap[k]?=some (.cells c t fz)):w.cell? ⟨k,i,none⟩=c[i]?:=by simp[World.cell?,h]
theorem xo(w:World)(o:Obj):(w.alloc o).heap[w.heap.size]?=some o:=heap_alloc_new w o
end Go.Proofs.YtnikdflhefijbaaGreat
namespace Go.Proofs.YtnikdflhefijbaaGreat
open Go.RowKit Go.ChangeShapes Go.WideShapes Go.ChangeAt Go.Deep
inductive Sh where
 |int (k:IntKind)
 |bool
 |str
 |slice (e:Sh)
 |nil
 |field (f r:Sh)
def Sh.size:Sh→Nat
 |.int _=>1
 |.bool=>1
 |.str=>1
 |.slice _=>1
 |.nil=>0
 |.field f r=>f.size+r.size
def Sh.T:Sh→Type
 |.int _=>Int
 |.bool=>Bool
 |.str=>ByteArray
 |.slice e=>List e.T
 |.nil=>Unit
 |.field f r=>f.T×r.T
def Sh.NX:(s:Sh)→s.T
 |.int _=>(0:Int)
 |.bool=>false
 |.str=>ByteArray.empty
 |.slice _=>[]
 |.nil=>()
 |.field f r=>(f.NX,r.NX)
def wh(w:World)(b o:Nat)(cs:List Value):Prop:=∀j u,cs[j]?=some u→w.cell? ⟨b,o+j,none⟩=some u
def Reads(w:World):(s:Sh)→List Value→s.T→Prop
 |.int k,cs,(n:Int)=>cs=[.int k n]∧(Lit.int k n).wf=true
 |.bool,cs,(b:Bool)=>cs=[.bool b]
 |.str,cs,(s:ByteArray)=>cs=[.string s]∧s.size≤maxLen
 |.slice e,cs,(l:List e.T)=>∃(a:Option Addr) (c:Nat),cs=[.slice a l.length c]∧l.length≤c∧c≤maxLen∧(a=none→c=0)∧
   (l≠[]→∃b o,a=some ⟨b,o,none⟩∧∀i,(h:i<l.length)→∃cs',cs'.length=e.size∧wh w b (o+i*e.size) cs'∧Reads w e cs' l[i])
 |.nil,cs,_=>cs=[]
 |.field f r,cs,(d:f.T×r.T)=>∃c1 c2,cs=c1++c2∧c1.length=f.size∧Reads w f c1 d.1∧Reads w r c2 d.2
def Sh.fit(P:Program):Sh→Sum TypeId (List Field×Nat)→Bool
 |.int k,.inl t=>match P.underlying t with | some (.int k')=>decide (k=k') | _=>false
 |.bool,.inl t=>match P.underlying t with | some .bool=>true | _=>false
 |.str,.inl t=>match P.underlying t with | some .string=>true | _=>false
 |.slice e,.inl t=>match P.underlying t with | some (.slice e')=>e.fit P (.inl e')&&decide (P.cellsOf e'=e.size)&&decide (0<e.size) | _=>false
 |.nil,.inr ([],_)=>true
 |.nil,.inl t=>match P.underlying t with | some (.struct fs)=>fs.toList.isEmpty&&decide (P.cellsOf t=0) | _=>false
 |.field f r,.inr (f0::fs,off)=>decide (f0.offset=off)&&decide (P.cellsOf f0.type=f.size)&&f.fit P (.inl f0.type)&&r.fit P (.inr (fs,off+f.size))
 |.field f r,.inl t=>match P.underlying t with
  |some (.struct fs)=>match fs.toList with
   |f0::F4=>decide (P.cellsOf t=f.size+r.size)&&(decide (f0.offset=0)&&decide (P.cellsOf f0.type=f.size)&&f.fit P (.inl f0.type)&&r.fit P (.inr (F4,f.size)))
   | []=>false
  |_=>false
 |_,_=>false
theorem zD{a b:Bool}(h:(a&&b)=true):a=true∧b=true:=by simpa using h
theorem wh.spot{w:World}{a:Addr}{n:Nat}{cs:List Value}(hn:0<n)(hl:cs.length=n)(h:∀i,i<n→w.cell? (a.add i)=cs[i]?):a.spot=none:=by
 have h0:=h 0 hn
 rw[bc (by omega)]at h0
 exact World.cell?_spot h0
theorem abv{H:Type}{enc:TypeId×Value→H}{P:Program}{w:World}{base:Nat}{spare:Nat→Bool}{held:Bool}(s:Sh):
  (∀(t:TypeId) (fuel:Nat) (cs:List Value) (x:DataW H×List MemPlace),s.fit P (.inl t)=true→DataW.trod enc P w base spare held fuel t cs=some x→cs.length=s.size∧∃d,Reads w s cs d)∧
  (∀(fs:List Field) (off n:Nat) (cs:List Value),s.fit P (.inr (fs,off))=true→cs.length=off+s.size→
   (∀(i:Nat) (f:Field),fs[i]?=some f→∃x,DataW.trod enc P w base spare held n f.type ((cs.drop f.offset).take (P.cellsOf f.type))=some x)→∃d,Reads w s (cs.drop off) d):=by
 induction s with
 |int k=>
  refine⟨fun t fuel cs x hf h=>?_,fun fs off n cs hf=>by simp[Sh.fit]at hf⟩
  unfold Sh.fit at hf
  split at hf
  ·rename_i k' hk
   have:=fP hf
   subst this
   obtain⟨n,rfl,_,hw⟩:=DataW.trod_int hk h
   exact⟨rfl,n,rfl,hw⟩
  ·cases hf
 |bool=>
  refine⟨fun t fuel cs x hf h=>?_,fun fs off n cs hf=>by simp[Sh.fit]at hf⟩
  unfold Sh.fit at hf
  split at hf
  ·rename_i hk
   obtain⟨b,rfl,_⟩:=DataW.trod_bool hk h
   exact⟨rfl,b,rfl⟩
  ·cases hf
 |str=>
  refine⟨fun t fuel cs x hf h=>?_,fun fs off n cs hf=>by simp[Sh.fit]at hf⟩
  unfold Sh.fit at hf
  split at hf
  ·rename_i hk
   obtain⟨b,rfl,_,hb⟩:=DataW.trod_string hk h
   exact⟨rfl,b,rfl,hb⟩
  ·cases hf
 |slice e ih=>
  refine⟨fun t fuel cs x hf h=>?_,fun fs off n cs hf=>by simp[Sh.fit]at hf⟩
  unfold Sh.fit at hf
  split at hf
  ·rename_i e' hk
   obtain⟨iQ,h0⟩:=zD hf
   obtain⟨wI,eD⟩:=zD iQ
   have eD:=fP eD
   have h0:=fP h0
   rcases open_slice hk h with ⟨rfl,_⟩ | ⟨a,len,cap,m,n,D,Pl,rfl,hb,hl,hm,hmm,_,hi⟩
   ·exact⟨rfl,[],none,0,rfl,Nat.le_refl _,by simp,fun _=>rfl,fun aO=>absurd rfl aO⟩
   ·have hlm:len≤m:=by rw[hmm];split <;> omega
    have Jw:∀i,i<len→∃(y:List Value×e.T),y.1.length=e.size∧w.cells? base (a.add (i*e.size)) e.size=some y.1∧Reads w e y.1 y.2:=by
     intro i sY
     obtain⟨cs',h1,h2⟩:=hi i (by omega)
     obtain⟨h3,d,h4⟩:=ih.1 e' n cs' _ wI h2
     rw[eD]at h1
     exact⟨(cs',d),h3,h1,h4⟩
    obtain⟨V,hV⟩:= @choose_lt _ ⟨([],e.NX)⟩ _ _ Jw
    refine⟨rfl,(List.range len).map (fun i=>(V i).2),some a,cap,by simp,by simpa using hl,hm,(fun e=>by cases e),fun aO=>?_⟩
    have ui:0<len:=by
     rcases uQ len with h | h
     ·subst h;exact absurd rfl aO
     ·exact h
    obtain⟨b,o,spot⟩:=a
    have agK:spot=none:=by
     obtain⟨q1,q2,_⟩:=hV 0 ui
     obtain⟨_,q4,q5⟩:=World.cells?_some q2
     have:=wh.spot (a:=(⟨b,o,spot⟩:Addr).add (0*e.size)) h0 q4 q5
     unfold Addr.add at this
     split at this <;> simp_all
    subst agK
    refine⟨b,o,rfl,fun i hi=>?_⟩
    have fo:i<len:=by simpa using hi
    obtain⟨q1,q2,q3⟩:=hV i fo
    obtain⟨_,q4,q5⟩:=World.cells?_some q2
    refine⟨(V i).1,q1,fun j u hu=>?_,by simpa using q3⟩
    have hj:j<e.size:=by have:=(bQ.1 hu).1;omega
    have:=q5 j hj
    rw[Addr.add_lit,Addr.add_lit]at this
    rw[this,hu]
  ·cases hf
 |nil=>
  refine⟨fun t fuel cs x hf h=>?_,fun fs off n cs hf hl _=>?_⟩
  ·unfold Sh.fit at hf
   split at hf
   ·rename_i fs hk
    obtain⟨_,hz⟩:=zD hf
    have hz:=fP hz
    obtain⟨xs,n,_,_,hlen,_⟩:=DataW.trod_struct hk h
    have:cs=[]:=iS.1 (by omega)
    exact⟨by simp[this,Sh.size],(),this⟩
   ·cases hf
  ·exact⟨(),List.drop_eq_nil_of_le (by simp[Sh.size]at hl;omega)⟩
 |field f r qJ jS=>
  have key:∀(f0:Field) (fs:List Field) (off n:Nat) (cs:List Value),
    (decide (f0.offset=off)&&decide (P.cellsOf f0.type=f.size)&&f.fit P (.inl f0.type)&&r.fit P (.inr (fs,off+f.size)))=true→cs.length=off+(f.size+r.size)→
    (∀(i:Nat) (g:Field),(f0::fs)[i]?=some g→∃x,DataW.trod enc P w base spare held n g.type ((cs.drop g.offset).take (P.cellsOf g.type))=some x)→∃d,Reads w (.field f r) (cs.drop off) d:=by
   intro f0 fs off n cs hf hl hx
   obtain⟨iQ,hr⟩:=zD hf
   obtain⟨wI,hff⟩:=zD iQ
   obtain⟨ho,hc⟩:=zD wI
   have ho:=fP ho
   have hc:=fP hc
   obtain⟨x,wD⟩:=hx 0 f0 rfl
   obtain⟨yi,d1,zX⟩:=qJ.1 _ _ _ _ hff wD
   obtain⟨d2,rW⟩:=jS.2 fs (off+f.size) n cs hr (by omega) (fun i g hg=>hx (i+1) g (by simpa using hg))
   refine⟨(d1,d2),(cs.drop f0.offset).take (P.cellsOf f0.type),cs.drop (off+f.size),?_,yi,zX,rW⟩
   rw[ho,hc,← B9,yB]
  refine⟨fun t fuel cs x hf h=>?_,fun fs off n cs hf hl hx=>?_⟩
  ·unfold Sh.fit at hf
   split at hf
   ·rename_i fs hk
    split at hf
    ·rename_i f0 F4 zW
     obtain⟨hz,hf'⟩:=zD hf
     have hz:=fP hz
     obtain⟨xs,n,_,_,hlen,Om,hg⟩:=DataW.trod_struct hk h
     have hl:cs.length=0+(f.size+r.size):=by omega
     obtain⟨d,hd⟩:=key f0 F4 0 n cs (by simpa using hf') hl (fun i g hig=>by
      have hi:fs[i]?=some g:=by rw[← Cl,zW];exact hig
      have:=hg i g hi
      have zV:i<xs.length:=by rw[Om];exact (Ad.1 hi).1
      exact⟨xs[i],by rw[this];exact bc zV⟩)
     exact⟨by simpa [Sh.size]using hl,d,by simpa using hd⟩
    ·cases hf
   ·cases hf
  ·cases fs with
   |nil=>simp[Sh.fit]at hf
   |cons f0 F4=>exact key f0 F4 off n cs (by simpa [Sh.fit]using hf) (by simpa [Sh.size]using hl) hx
theorem Ru{H:Type}{enc:TypeId×Value→H}{P:Program}{w:World}{base:Nat}{spare:Nat→Bool}{held:Bool}{t:TypeId}{v:Value}{d:DataW H}{p:List MemPlace}(s:Sh)(hs:s.fit P (.inl t)=true)
  (h:DataW.Trod enc P w base spare held t v d p):∃x:s.T,Reads w s v.cells.toList x:=by
 obtain⟨fuel,hf⟩:=h
 exact ((abv s).1 t fuel _ _ hs hf).2
theorem wf_u64{n:Int}(h:(Lit.int .u64 n).wf=true):0≤n∧n<18446744073709551616:=by
 have:=bounds_u64 h
 omega
end Go.Proofs.YtnikdflhefijbaaGreat
namespace Go.Proofs.YtnikdflhefijbaaGreat
set_option maxRecDepth 100000
set_option maxHeartbeats 4000000
namespace SX
structure AP where
 n:Nat
 W:Nat
 k:Nat
 nx:Nat→List Nat
 jw:Int→Int→Int
 out:Nat→List Int→List Int
 ok:Nat→Int→Prop
 DT:∀{v u},v<n→u∈nx v→u<n
 idem:∀{i x},ok i x→jw x x=x
 comm:∀{i x y},ok i x→ok i y→jw x y=jw y x
 assoc:∀{i x y z},ok i x→ok i y→ok i z→jw (jw x y) z=jw x (jw y z)
 Ob:∀{i x y},ok i x→ok i y→ok i (jw x y)
 H8:∀{v y},v<n→y.length=W→(∀i,i<W→ok i (y.getD i 0))→(out v y).length=W∧∀i,i<W→ok i ((out v y).getD i 0)
 mono:∀{v y z},v<n→y.length=W→z.length=W→(∀i,i<W→ok i (y.getD i 0))→(∀i,i<W→ok i (z.getD i 0))→(∀i,i<W→jw (y.getD i 0) (z.getD i 0)=z.getD i 0)→∀i,i<W→jw ((out v y).getD i 0) ((out v z).getD i 0)=(out v z).getD i 0
inductive Ph where
 |idle (d a:Nat)
 |held (v:Nat)
 |clear (v:Nat)
 |read (v:Nat) (y:List Int)
 |join (v:Nat) (o:List Int) (u:Nat) (r:List Nat) (at_:Nat) (ld:Option Int) (ch:Bool)
 |take (v:Nat) (o:List Int) (u:Nat) (r:List Nat)
 |add (v:Nat) (o:List Int) (u:Nat) (r:List Nat)
 |push (v:Nat) (o:List Int) (u:Nat) (r:List Nat) (a:Nat)
 |dA (v:Nat)
 |done
structure AS where
 cell:Nat→Nat→Int
 flag:Nat→Bool
 aD:Nat
 dq:List (List Nat)
 ph:List Ph
 ev:Nat
 jo:Nat
def eB(v:Nat)(o:List Int):List Nat→Ph
 | []=>.dA v
 |u::r=>.join v o u r 0 none false
def l6(A:AP)(c:Nat→Nat→Int)(v:Nat):List Int:=(List.range A.W).map (c v)
def dm(c:Nat→Nat→Int)(v i:Nat)(x:Int):Nat→Nat→Int:=fun v' i'=>if v'=v∧i'=i then x else c v' i'
def dI(A:AP)(v:Nat)(o:List Int)(u:Nat)(r:List Nat)(at_:Nat)(ch:Bool):Ph×Nat:=
 if at_+1<A.W then (.join v o u r (at_+1) none ch,0) else if ch=true then (.take v o u r,1) else (eB v o r,0)
inductive Tr(A:AP)(S:AS)(i:Nat):AS→Prop where
 |stay (h:S.ph[i]?=some .done∨S.ph[i]?=none):Tr A S i S
 |uc (a:Nat) (h:S.ph[i]?=some (.idle 0 a)) (ha:a<5):Tr A S i { S with ph:=S.ph.set i (.idle 0 (a+1)) }
 |ud (a:Nat) (h:S.ph[i]?=some (.idle 0 a)) (hd:S.dq[i]?=some []):Tr A S i { S with ph:=S.ph.set i (.idle (if A.k<2 then 2 else 1) 0) }
 |pop (v:Nat) (c:List Nat) (a:Nat) (h:S.ph[i]?=some (.idle 0 a)) (hd:S.dq[i]?=some (c++[v])):Tr A S i { S with dq:=S.dq.set i c,ph:=S.ph.set i (.clear v) }
 |cas (v:Nat) (a:Nat) (h:S.ph[i]?=some (.idle 0 a)) (hd:S.dq[i]?=some [v]):Tr A S i { S with dq:=S.dq.set i [],ph:=S.ph.set i (.held v) }
 |uM (v:Nat) (h:S.ph[i]?=some (.held v)):Tr A S i { S with ph:=S.ph.set i (.clear v) }
 |tG (a:Nat) (h:S.ph[i]?=some (.idle 1 a)) (ha:a<3):Tr A S i { S with ph:=S.ph.set i (.idle 1 (a+1)) }
 |tH (a:Nat) (h:S.ph[i]?=some (.idle 1 a)):Tr A S i { S with ph:=S.ph.set i (.idle 2 0) }
 |cc (j v:Nat) (c:List Nat) (a:Nat) (h:S.ph[i]?=some (.idle 1 a)) (hd:S.dq[j]?=some (v::c)):Tr A S i { S with dq:=S.dq.set j c,ph:=S.ph.set i (.clear v) }
 |ask (h:S.ph[i]?=some (.idle 2 0)) (hc:S.aD≠0):Tr A S i { S with ph:=S.ph.set i (.idle (if A.k<2 then 0 else 1) 0) }
 |clear (v:Nat) (h:S.ph[i]?=some (.clear v)):Tr A S i { S with flag:=fun z=>if z=v then false else S.flag z,ph:=S.ph.set i (.read v []) }
 |tO (v:Nat) (y:List Int) (h:S.ph[i]?=some (.read v y)) (hy:y.length+1<A.W):Tr A S i { S with ph:=S.ph.set i (.read v (y++[S.cell v y.length])) }
 |tP (v:Nat) (y y':List Int) (h:S.ph[i]?=some (.read v y)) (hy:(y.length+1=A.W∧y'=y++[S.cell v y.length])∨(A.W=0∧y'=[])):Tr A S i { S with ph:=S.ph.set i (eB v (A.out v y') (A.nx v)),ev:=S.ev+1 }
 |load (v:Nat) (o:List Int) (u:Nat) (r:List Nat) (at_:Nat) (ch:Bool) (h:S.ph[i]?=some (.join v o u r at_ none ch)) (ha:at_<A.W) (hx:A.jw (S.cell u at_) (o.getD at_ 0)≠S.cell u at_):Tr A S i { S with ph:=S.ph.set i (.join v o u r at_ (some (S.cell u at_)) ch) }
 |same (v:Nat) (o:List Int) (u:Nat) (r:List Nat) (at_:Nat) (ch:Bool) (h:S.ph[i]?=some (.join v o u r at_ none ch)) (ha:at_<A.W) (hx:A.jw (S.cell u at_) (o.getD at_ 0)=S.cell u at_):Tr A S i { S with ph:=S.ph.set i (dI A v o u r at_ ch).1,jo:=S.jo+(dI A v o u r at_ ch).2 }
 |lost (v:Nat) (o:List Int) (u:Nat) (r:List Nat) (at_:Nat) (ch:Bool) (x:Int) (h:S.ph[i]?=some (.join v o u r at_ (some x) ch)) (ha:at_<A.W) (hx:S.cell u at_≠x):Tr A S i { S with ph:=S.ph.set i (.join v o u r at_ none ch) }
 |uo (v:Nat) (o:List Int) (u:Nat) (r:List Nat) (at_:Nat) (ch:Bool) (h:S.ph[i]?=some (.join v o u r at_ (some (S.cell u at_)) ch)) (ha:at_<A.W) (hx:A.jw (S.cell u at_) (o.getD at_ 0)≠S.cell u at_):Tr A S i { S with cell:=dm S.cell u at_ (A.jw (S.cell u at_) (o.getD at_ 0)),ph:=S.ph.set i (dI A v o u r at_ true).1,jo:=S.jo+(dI A v o u r at_ true).2 }
 |none (v:Nat) (o:List Int) (u:Nat) (r:List Nat) (h:S.ph[i]?=some (.join v o u r 0 none false)) (ha:A.W=0):Tr A S i { S with ph:=S.ph.set i (eB v o r) }
 |flag (v:Nat) (o:List Int) (u:Nat) (r:List Nat) (h:S.ph[i]?=some (.take v o u r)) (hf:S.flag u=false):Tr A S i { S with flag:=fun z=>if z=u then true else S.flag z,ph:=S.ph.set i (.add v o u r) }
 |uf (v:Nat) (o:List Int) (u:Nat) (r:List Nat) (h:S.ph[i]?=some (.take v o u r)) (hf:S.flag u=true):Tr A S i { S with ph:=S.ph.set i (eB v o r) }
 |add (v:Nat) (o:List Int) (u:Nat) (r:List Nat) (h:S.ph[i]?=some (.add v o u r)):Tr A S i { S with aD:=S.aD+1,ph:=S.ph.set i (.push v o u r 0) }
 |tQ (v:Nat) (o:List Int) (u:Nat) (r:List Nat) (a:Nat) (h:S.ph[i]?=some (.push v o u r a)) (ha:a<3):Tr A S i { S with ph:=S.ph.set i (.push v o u r (a+1)) }
 |push (v:Nat) (o:List Int) (u:Nat) (r:List Nat) (c:List Nat) (h:S.ph[i]?=some (.push v o u r 3)) (hd:S.dq[i]?=some c):Tr A S i { S with dq:=S.dq.set i (c++[u]),ph:=S.ph.set i (eB v o r) }
 |dA (v:Nat) (h:S.ph[i]?=some (.dA v)):Tr A S i { S with aD:=S.aD-1,ph:=S.ph.set i (.idle 0 0) }
 |ua (h:S.ph[i]?=some (.idle 2 0)) (hc:S.aD=0):Tr A S i { S with ph:=S.ph.set i .done }
def aF{α:Type}(f:α→Nat)(l:List α):Nat:=(l.map f).sum
theorem eW{α:Type}(f:α→Nat):∀(l:List α) (i:Nat) (x y:α),l[i]?=some x→aF f (l.set i y)+f x=aF f l+f y
 |a::l,0,x,y,h=>by
  simp at h;subst h
  show f y+aF f l+f a=f a+aF f l+f y
  omega
 |a::l,i+1,x,y,h=>by
  have:=eW f l i x y (by simpa using h)
  show f a+aF f (l.set i y)+f x=f a+aF f l+f y
  omega
theorem y4{α:Type}(f:α→Nat):∀(l:List α) (i:Nat) (x:α),l[i]?=some x→f x≤aF f l
 |a::l,0,x,h=>by
  simp at h;subst h
  show f a≤f a+aF f l
  omega
 |a::l,i+1,x,h=>by
  have:=y4 f l i x (by simpa using h)
  show f x≤f a+aF f l
  omega
theorem Sn{α:Type}(f:α→Nat){l:List α}(h:aF f l=0){x:α}(hx:x∈l):f x=0:=by
 obtain⟨i,hi⟩:=kI.1 hx
 have:=y4 f l i x hi
 omega
def qv:Ph→List Nat
 |.held v | .clear v=>[v]
 |.add _ _ u _ | .push _ _ u _ _=>[u]
 |_=>[]
def iO(z:Nat)(p:Ph):Nat:=(qv p).count z
def tok(S:AS)(v:Nat):Nat:=aF (fun l=>l.count v) S.dq+aF (iO v) S.ph
def cw:Ph→Nat
 |.idle _ _ | .done=>0
 |.push .. => 2
 |_=>1
def nodes:Ph→List Nat
 |.idle _ _ | .done=>[]
 |.held v | .clear v | .read v _ | .dA v=>[v]
 |.join v _ u r _ _ _ | .take v _ u r | .add v _ u r | .push v _ u r _=>v::u::r
structure TI(A:AP)(S:AS):Prop where
 tok:∀v,tok S v=if S.flag v then 1 else 0
 aD:S.aD=aF List.length S.dq+aF cw S.ph
 nX:∀c∈S.dq,∀v∈c,v<A.n
 sM:∀p∈S.ph,∀v∈nodes p,v<A.n
theorem Dv(v:Nat)(o:List Int)(r:List Nat):cw (eB v o r)=1:=by cases r <;> rfl
theorem C8(v:Nat)(o:List Int)(r:List Nat):qv (eB v o r)=[]:=by cases r <;> rfl
theorem CE{v:Nat}{o:List Int}{r:List Nat}{z:Nat}(h:z∈nodes (eB v o r)):z=v∨z∈r:=by
 cases r with
 |nil=>simp[eB,nodes]at h;exact .inl h
 |cons u r=>simp[eB,nodes]at h;simp;omega
theorem Tc(A:AP)(v:Nat)(o:List Int)(u:Nat)(r:List Nat)(at_:Nat)(ch:Bool):cw (dI A v o u r at_ ch).1=1:=by
 unfold dI;split
 ·rfl
 ·split
  ·rfl
  ·exact Dv _ _ _
theorem RI(A:AP)(v:Nat)(o:List Int)(u:Nat)(r:List Nat)(at_:Nat)(ch:Bool):qv (dI A v o u r at_ ch).1=[]:=by
 unfold dI;split
 ·rfl
 ·split
  ·rfl
  ·exact C8 _ _ _
theorem Qd{A:AP}{v:Nat}{o:List Int}{u:Nat}{r:List Nat}{at_:Nat}{ch:Bool}{z:Nat}(h:z∈nodes (dI A v o u r at_ ch).1):z∈v::u::r:=by
 revert h
 unfold dI;split
 ·exact id
 ·split
  ·exact id
  ·intro h
   rcases CE h with h | h <;> simp[h]
theorem TI.ph{A:AP}{S:AS}(h:TI A S){i:Nat}{p q:Ph}(hi:S.ph[i]?=some p)(ht:qv q=qv p)(hc:cw q=cw p)(hn:∀z∈nodes q,z<A.n){S':AS}(e1:S'.flag=S.flag)(e2:S'.aD=S.aD)(e3:S'.dq=S.dq)(e4:S'.ph=S.ph.set i q):TI A S':=by
 refine⟨fun v=>?_,?_,?_,?_⟩
 ·have:=eW (iO v) S.ph i p q hi
  have e0:iO v q=iO v p:=by unfold iO;rw[ht]
  have h1:=h.tok v
  unfold SX.tok at h1 ⊢
  rw[e1,e3,e4]
  omega
 ·have:=eW cw S.ph i p q hi
  have h1:=h.aD
  rw[e2,e3,e4]
  omega
 ·rw[e3];exact h.nX
 ·rw[e4]
  intro x hx v hv
  rcases qb hx with hx | rfl
  ·exact h.sM x hx v hv
  ·exact hn v hv
theorem TI.at_{A:AP}{S:AS}(h:TI A S){i:Nat}{p:Ph}(hi:S.ph[i]?=some p){v:Nat}(hv:v∈nodes p):v<A.n:=h.sM p (bH hi) v hv
theorem xb{S:AS}{A:AP}(h:∀p∈S.ph,∀v∈nodes p,v<A.n){i:Nat}{q:Ph}(hn:∀z∈nodes q,z<A.n):∀p∈S.ph.set i q,∀v∈nodes p,v<A.n:=by
 intro x hx v hv
 rcases qb hx with hx | rfl
 ·exact h x hx v hv
 ·exact hn v hv
theorem Gt{S:AS}{A:AP}(h:∀c∈S.dq,∀v∈c,v<A.n){i:Nat}{c:List Nat}(hn:∀z∈c,z<A.n):∀c'∈S.dq.set i c,∀v∈c',v<A.n:=by
 intro x hx v hv
 rcases qb hx with hx | rfl
 ·exact h x hx v hv
 ·exact hn v hv
theorem AO(a b:Nat):[a].count b=if a=b then 1 else 0:=by
 rw[List.count_singleton]
 by_cases h:a=b <;> simp[h]
theorem TI.step{A:AP}{S S':AS}{i:Nat}(h:TI A S)(hs:Tr A S i S'):TI A S':=by
 cases hs with
 |stay=>exact h
 |uc a hp ha=>exact h.ph (q:=.idle 0 (a+1)) hp rfl rfl (by simp[nodes]) rfl rfl rfl rfl
 |ud a hp hd=>exact h.ph (q:=.idle (if A.k<2 then 2 else 1) 0) hp rfl rfl (by simp[nodes]) rfl rfl rfl rfl
 |tG a hp ha=>exact h.ph (q:=.idle 1 (a+1)) hp rfl rfl (by simp[nodes]) rfl rfl rfl rfl
 |tH a hp=>exact h.ph (q:=.idle 2 0) hp rfl rfl (by simp[nodes]) rfl rfl rfl rfl
 |ask hp hc=>exact h.ph (q:=.idle (if A.k<2 then 0 else 1) 0) hp rfl rfl (by simp[nodes]) rfl rfl rfl rfl
 |tQ v o u r a hp ha=>exact h.ph (q:=.push v o u r (a+1)) hp rfl rfl (fun z hz=>h.at_ hp hz) rfl rfl rfl rfl
 |pop v c a hp hd=>
  have hv:v<A.n:=h.nX _ (List.mem_of_getElem? hd) v (by simp)
  refine⟨fun z=>?_,?_,Gt h.nX (fun z hz=>h.nX _ (List.mem_of_getElem? hd) z (by simp[hz])),xb h.sM (by simpa [nodes]using hv)⟩
  ·have k1:=eW (iO z) S.ph i _ (.clear v) hp
   have k2:=eW (fun l=>l.count z) S.dq i _ c hd
   have k3:=h.tok z
   unfold SX.tok at k3 ⊢
   simp only[iO,qv,List.count_append,AO,FJ]at k1 k2
   show aF _ (S.dq.set i c)+aF _ (S.ph.set i (.clear v))=if S.flag z then 1 else 0
   omega
  ·have k1:=eW cw S.ph i _ (.clear v) hp
   have k2:=eW List.length S.dq i _ c hd
   have k3:=h.aD
   simp only[cw,bG,se]at k1 k2
   show S.aD=aF List.length (S.dq.set i c)+aF cw (S.ph.set i (.clear v))
   omega
 |cas v a hp hd=>
  have hv:v<A.n:=h.nX _ (List.mem_of_getElem? hd) v (by simp)
  refine⟨fun z=>?_,?_,Gt h.nX (fun z hz=>by cases hz),xb h.sM (by simpa [nodes]using hv)⟩
  ·have k1:=eW (iO z) S.ph i _ (.held v) hp
   have k2:=eW (fun l=>l.count z) S.dq i _ [] hd
   have k3:=h.tok z
   unfold SX.tok at k3 ⊢
   simp only[iO,qv,AO,FJ]at k1 k2
   show aF _ (S.dq.set i [])+aF _ (S.ph.set i (.held v))=if S.flag z then 1 else 0
   omega
  ·have k1:=eW cw S.ph i _ (.held v) hp
   have k2:=eW List.length S.dq i _ [] hd
   have k3:=h.aD
   simp only[cw,List.length_nil,se]at k1 k2
   show S.aD=aF List.length (S.dq.set i [])+aF cw (S.ph.set i (.held v))
   omega
 |uM v hp=>exact h.ph (q:=.clear v) hp rfl rfl (by have:=h.at_ hp (v:=v) (by simp[nodes]);simpa [nodes]using this) rfl rfl rfl rfl
 |cc j v c a hp hd=>
  have hv:v<A.n:=h.nX _ (List.mem_of_getElem? hd) v (by simp)
  refine⟨fun z=>?_,?_,Gt h.nX (fun z hz=>h.nX _ (List.mem_of_getElem? hd) z (by simp[hz])),xb h.sM (by simpa [nodes]using hv)⟩
  ·have k1:=eW (iO z) S.ph i _ (.clear v) hp
   have k2:=eW (fun l=>l.count z) S.dq j _ c hd
   have k3:=h.tok z
   unfold SX.tok at k3 ⊢
   have k4:(v::c).count z=[v].count z+c.count z:=by rw[← List.count_append];rfl
   simp only[iO,qv,AO,FJ,k4]at k1 k2
   show aF _ (S.dq.set j c)+aF _ (S.ph.set i (.clear v))=if S.flag z then 1 else 0
   omega
  ·have k1:=eW cw S.ph i _ (.clear v) hp
   have k2:=eW List.length S.dq j _ c hd
   have k3:=h.aD
   simp only[cw,fO]at k1 k2
   show S.aD=aF List.length (S.dq.set j c)+aF cw (S.ph.set i (.clear v))
   omega
 |clear v hp=>
  have hv:=h.at_ hp (v:=v) (by simp[nodes])
  refine⟨fun z=>?_,?_,h.nX,xb h.sM (by simpa [nodes]using hv)⟩
  ·have k1:=eW (iO z) S.ph i _ (.read v []) hp
   have k3:=h.tok z
   have k5:=y4 (iO z) S.ph i _ hp
   unfold SX.tok at k3 ⊢
   simp only[iO,qv,AO,FJ]at k1 k5
   show aF _ S.dq+aF _ (S.ph.set i (.read v []))=if (if z=v then false else S.flag z) then 1 else 0
   by_cases hz:v=z
   ·subst hz
    simp only[if_true]at k1 k5 ⊢
    split at k3 <;> simp <;> omega
   ·have ez:(if z=v then false else S.flag z)=S.flag z:=ah fun e=>hz e.symm
    rw[ez]
    simp only[ah hz]at k1
    omega
  ·have k1:=eW cw S.ph i _ (.read v []) hp
   have k3:=h.aD
   simp only[cw]at k1
   show S.aD=aF List.length S.dq+aF cw (S.ph.set i (.read v []))
   omega
 |tO v y hp hy=>exact h.ph (q:=.read v (y++[S.cell v y.length])) hp rfl rfl (by have:=h.at_ hp (v:=v) (by simp[nodes]);simpa [nodes]using this) rfl rfl rfl rfl
 |tP v y y' hp hy=>
  have hv:=h.at_ hp (v:=v) (by simp[nodes])
  exact h.ph (q:=eB v (A.out v y') (A.nx v)) hp (C8 _ _ _) (Dv _ _ _) (fun z hz=>by
   rcases CE hz with rfl | hz
   ·exact hv
   ·exact A.DT hv hz) rfl rfl rfl rfl
 |load v o u r at_ ch hp ha hx=>exact h.ph (q:=.join v o u r at_ (some (S.cell u at_)) ch) hp rfl rfl (fun z hz=>h.at_ hp hz) rfl rfl rfl rfl
 |same v o u r at_ ch hp ha hx=>exact h.ph (q:=(dI A v o u r at_ ch).1) hp (RI ..) (Tc ..) (fun z hz=>h.at_ hp (Qd hz)) rfl rfl rfl rfl
 |lost v o u r at_ ch x hp ha hx=>exact h.ph (q:=.join v o u r at_ none ch) hp rfl rfl (fun z hz=>h.at_ hp hz) rfl rfl rfl rfl
 |uo v o u r at_ ch hp ha hx=>exact h.ph (q:=(dI A v o u r at_ true).1) hp (RI ..) (Tc ..) (fun z hz=>h.at_ hp (Qd hz)) rfl rfl rfl rfl
 |none v o u r hp ha=>exact h.ph (q:=eB v o r) hp (C8 _ _ _) (Dv _ _ _) (fun z hz=>h.at_ hp (by rcases CE hz with hz | hz <;> simp[nodes,hz])) rfl rfl rfl rfl
 |flag v o u r hp hf=>
  refine⟨fun z=>?_,?_,h.nX,xb h.sM (fun z hz=>h.at_ hp hz)⟩
  ·have k1:=eW (iO z) S.ph i _ (.add v o u r) hp
   have k3:=h.tok z
   unfold SX.tok at k3 ⊢
   simp only[iO,qv,AO,FJ]at k1
   show aF _ S.dq+aF _ (S.ph.set i (.add v o u r))=if (if z=u then true else S.flag z) then 1 else 0
   by_cases hz:u=z
   ·subst hz
    rw[hf]at k3
    simp at k1 k3 ⊢
    omega
   ·have ez:(if z=u then true else S.flag z)=S.flag z:=ah fun e=>hz e.symm
    rw[ez]
    simp only[ah hz]at k1
    omega
  ·have k1:=eW cw S.ph i _ (.add v o u r) hp
   have k3:=h.aD
   simp only[cw]at k1
   show S.aD=aF List.length S.dq+aF cw (S.ph.set i (.add v o u r))
   omega
 |uf v o u r hp hf=>exact h.ph (q:=eB v o r) hp (C8 _ _ _) (Dv _ _ _) (fun z hz=>h.at_ hp (by rcases CE hz with hz | hz <;> simp[nodes,hz])) rfl rfl rfl rfl
 |add v o u r hp=>
  refine⟨fun z=>?_,?_,h.nX,xb h.sM (fun z hz=>h.at_ hp hz)⟩
  ·have k1:=eW (iO z) S.ph i _ (.push v o u r 0) hp
   have k3:=h.tok z
   unfold SX.tok at k3 ⊢
   simp only[iO,qv]at k1
   show aF _ S.dq+aF _ (S.ph.set i (.push v o u r 0))=if S.flag z then 1 else 0
   omega
  ·have k1:=eW cw S.ph i _ (.push v o u r 0) hp
   have k3:=h.aD
   simp only[cw]at k1
   show S.aD+1=aF List.length S.dq+aF cw (S.ph.set i (.push v o u r 0))
   omega
 |push v o u r c hp hd=>
  have hu:=h.at_ hp (v:=u) (by simp[nodes])
  refine⟨fun z=>?_,?_,Gt h.nX (fun z hz=>?_),xb h.sM (fun z hz=>h.at_ hp (by rcases CE hz with hz | hz <;> simp[nodes,hz]))⟩
  ·have k1:=eW (iO z) S.ph i _ (eB v o r) hp
   have k2:=eW (fun l=>l.count z) S.dq i _ (c++[u]) hd
   have k3:=h.tok z
   unfold SX.tok at k3 ⊢
   have e0:iO z (eB v o r)=0:=by unfold iO;rw[C8];rfl
   rw[e0]at k1
   simp only[iO,qv,List.count_append,AO]at k1 k2
   show aF _ (S.dq.set i (c++[u]))+aF _ (S.ph.set i (eB v o r))=if S.flag z then 1 else 0
   omega
  ·have k1:=eW cw S.ph i _ (eB v o r) hp
   have k2:=eW List.length S.dq i _ (c++[u]) hd
   have k3:=h.aD
   rw[Dv]at k1
   simp only[cw,bG,se]at k1 k2
   show S.aD=aF List.length (S.dq.set i (c++[u]))+aF cw (S.ph.set i (eB v o r))
   omega
  ·rcases bP.1 hz with hz | hz
   ·exact h.nX _ (bH hd) z hz
   ·rw[a8.1 hz];exact hu
 |dA v hp=>
  refine⟨fun z=>?_,?_,h.nX,xb h.sM (by simp[nodes])⟩
  ·have k1:=eW (iO z) S.ph i _ (.idle 0 0) hp
   have k3:=h.tok z
   unfold SX.tok at k3 ⊢
   simp only[iO,qv]at k1
   show aF _ S.dq+aF _ (S.ph.set i (.idle 0 0))=if S.flag z then 1 else 0
   omega
  ·have k1:=eW cw S.ph i _ (.idle 0 0) hp
   have k3:=h.aD
   simp only[cw]at k1
   show S.aD-1=aF List.length S.dq+aF cw (S.ph.set i (.idle 0 0))
   omega
 |ua hp hc=>exact h.ph (q:=.done) hp rfl rfl (by simp[nodes]) rfl rfl rfl rfl
end SX
end Go.Proofs.YtnikdflhefijbaaGreat
namespace Go.Proofs.YtnikdflhefijbaaGreat
set_option maxRecDepth 100000
set_option maxHeartbeats 4000000
namespace SX
variable {A:AP}
theorem le_trans{i:Nat}{x y z:Int}(hx:A.ok i x)(hy:A.ok i y)(hz:A.ok i z)(h1:A.jw x y=y)(h2:A.jw y z=z):A.jw x z=z:=by
 rw[← h2,← A.assoc hx hy hz,h1]
theorem Ma{i:Nat}{x y:Int}(hx:A.ok i x)(hy:A.ok i y):A.jw x (A.jw x y)=A.jw x y:=by
 rw[← A.assoc hx hx hy,A.idem hx]
theorem S6{i:Nat}{x y:Int}(hx:A.ok i x)(hy:A.ok i y):A.jw y (A.jw x y)=A.jw x y:=by
 rw[A.comm hx hy,← A.assoc hy hy hx,A.idem hy]
theorem ae4{i:Nat}{x y z:Int}(hx:A.ok i x)(hy:A.ok i y)(hz:A.ok i z)(h1:A.jw x z=z)(h2:A.jw y z=z):A.jw (A.jw x y) z=z:=by
 rw[A.assoc hx hy hz,h2,h1]
theorem GU(c:Nat→Nat→Int)(v:Nat):(l6 A c v).length=A.W:=by simp[l6]
theorem CU(c:Nat→Nat→Int)(v:Nat){i:Nat}(h:i<A.W):(l6 A c v).getD i 0=c v i:=by
 unfold l6
 rw[aR,eU,wS h];rfl
theorem AT(c:Nat→Nat→Int)(v i:Nat)(x:Int):dm c v i x v i=x:=by simp[dm]
theorem tE{c:Nat→Nat→Int}{v i:Nat}{x:Int}{v' i':Nat}(h:¬(v'=v∧i'=i)):dm c v i x v' i'=c v' i':=by simp only[dm,ah h]
theorem aaB{c:Nat→Nat→Int}{v i:Nat}{x:Int}{v':Nat}(h:v'≠v):l6 A (dm c v i x) v'=l6 A c v':=by
 unfold l6
 refine wT fun j _=>?_
 exact tE fun e=>h e.1
structure Ee(A:AP)(b:Nat→Nat→Int)(v:Nat)(o:List Int):Prop where
 len:o.length=A.W
 ok:∀i,i<A.W→A.ok i (o.getD i 0)
 low:∀u∈A.nx v,∀i,i<A.W→A.jw (o.getD i 0) (b u i)=b u i
def wg(A:AP)(b cell:Nat→Nat→Int):Ph→Prop
 |.read v y=>(y.length<A.W∨(A.W=0∧y=[]))∧∀i,i<y.length→A.ok i (y.getD i 0)∧A.jw (y.getD i 0) (cell v i)=cell v i
 |.join v o u r at_ ld _=>Ee A b v o∧u∈A.nx v∧(∀z∈r,z∈A.nx v)∧(∀i,i<at_→i<A.W→A.jw (o.getD i 0) (cell u i)=cell u i)∧(∀x,ld=some x→at_<A.W)
 |.take v o u r | .add v o u r | .push v o u r _=>Ee A b v o∧u∈A.nx v∧(∀z∈r,z∈A.nx v)∧(∀i,i<A.W→A.jw (o.getD i 0) (cell u i)=cell u i)
 |_=>True
structure N5(A:AP)(b:Nat→Nat→Int):Prop where
 ok:∀v i,v<A.n→i<A.W→A.ok i (b v i)
 out:∀v,v<A.n→∀u∈A.nx v,∀i,i<A.W→A.jw ((A.out v (l6 A b v)).getD i 0) (b u i)=b u i
structure VI(A:AP)(b:Nat→Nat→Int)(S:AS):Prop where
 ok:∀v i,v<A.n→i<A.W→A.ok i (S.cell v i)
 low:∀v i,v<A.n→i<A.W→A.jw (S.cell v i) (b v i)=b v i
 ph:∀p∈S.ph,wg A b S.cell p
theorem wg.ahq{b cell Bl:Nat→Nat→Int}{p:Ph}(h:wg A b cell p)(hn:∀v∈nodes p,v<A.n)(h0:∀v i,v<A.n→i<A.W→A.ok i (cell v i))(h1:∀v i,v<A.n→i<A.W→A.ok i (Bl v i))(h2:∀v i,v<A.n→i<A.W→A.jw (cell v i) (Bl v i)=Bl v i):wg A b Bl p:=by
 have key:∀{v:Nat} {o:List Int} {u:Nat} {m:Nat},Ee A b v o→u<A.n→(∀i,i<m→i<A.W→A.jw (o.getD i 0) (cell u i)=cell u i)→∀i,i<m→i<A.W→A.jw (o.getD i 0) (Bl u i)=Bl u i:=by
  intro v o u m ho hu hj i hi hw
  exact le_trans (ho.ok i hw) (h0 u i hu hw) (h1 u i hu hw) (hj i hi hw) (h2 u i hu hw)
 cases p with
 |read v y=>
  obtain⟨h3,h4⟩:=h
  refine⟨h3,fun i hi=>⟨(h4 i hi).1,?_⟩⟩
  have hw:i<A.W:=by (rcases h3 with h3 | ⟨_,rfl⟩);exact FG hi h3;cases hi
  have hv:=hn v (by simp[nodes])
  exact le_trans (h4 i hi).1 (h0 v i hv hw) (h1 v i hv hw) (h4 i hi).2 (h2 v i hv hw)
 |join v o u r at_ ld ch=>
  obtain⟨h3,h4,h5,h6,h7⟩:=h
  exact⟨h3,h4,h5,key h3 (hn u (by simp[nodes])) h6,h7⟩
 |take v o u r=>
  obtain⟨h3,h4,h5,h6⟩:=h
  exact⟨h3,h4,h5,fun i hi=>key (m:=A.W) h3 (hn u (by simp[nodes])) (fun i _ hw=>h6 i hw) i hi hi⟩
 |add v o u r=>
  obtain⟨h3,h4,h5,h6⟩:=h
  exact⟨h3,h4,h5,fun i hi=>key (m:=A.W) h3 (hn u (by simp[nodes])) (fun i _ hw=>h6 i hw) i hi hi⟩
 |push v o u r a=>
  obtain⟨h3,h4,h5,h6⟩:=h
  exact⟨h3,h4,h5,fun i hi=>key (m:=A.W) h3 (hn u (by simp[nodes])) (fun i _ hw=>h6 i hw) i hi hi⟩
 |_=>trivial
theorem Dt{b cell:Nat→Nat→Int}{v:Nat}{o:List Int}{r:List Nat}(h:Ee A b v o)(hr:∀z∈r,z∈A.nx v):wg A b cell (eB v o r):=by
 cases r with
 |nil=>trivial
 |cons u r=>exact⟨h,hr u (by simp),fun z hz=>hr z (by simp[hz]),fun i hi=>absurd hi (Nat.not_lt_zero _),fun x hx=>by cases hx⟩
theorem Ta{b cell:Nat→Nat→Int}{v:Nat}{o:List Int}{u:Nat}{r:List Nat}{at_:Nat}{ch:Bool}(h:Ee A b v o)(hu:u∈A.nx v)(hr:∀z∈r,z∈A.nx v)(hj:∀i,i<at_+1→i<A.W→A.jw (o.getD i 0) (cell u i)=cell u i):wg A b cell (dI A v o u r at_ ch).1:=by
 unfold dI
 split
 ·exact⟨h,hu,hr,hj,fun x hx=>by cases hx⟩
 ·split
  ·exact⟨h,hu,hr,fun i hi=>hj i (by omega) hi⟩
  ·exact Dt h hr
theorem GQ(y:List Int)(x:Int)(i:Nat):(y++[x]).getD i 0=if i<y.length then y.getD i 0 else if i=y.length then x else 0:=by
 simp only[aR]
 by_cases h:i<y.length
 ·rw[ag h,jG h]
 ·rw[ah h,ij (by omega)]
  by_cases h2:i=y.length
  ·simp[h2]
  ·rw[if_neg h2,List.getElem?_eq_none (by simp;omega)];rfl
theorem VI.step{b:Nat→Nat→Int}{S S':AS}{i:Nat}(hb:N5 A b)(ht:TI A S)(h:VI A b S)(hs:Tr A S i S'):VI A b S'∧∀v j,v<A.n→j<A.W→A.jw (S.cell v j) (S'.cell v j)=S'.cell v j:=by
 have hrefl:∀v j,v<A.n→j<A.W→A.jw (S.cell v j) (S.cell v j)=S.cell v j:=fun v j hv hj=>A.idem (h.ok v j hv hj)
 have jQ:∀{q:Ph} {S':AS},S'.cell=S.cell→S'.ph=S.ph.set i q→wg A b S.cell q→VI A b S'∧∀v j,v<A.n→j<A.W→A.jw (S.cell v j) (S'.cell v j)=S'.cell v j:=by
  intro q S' e1 e2 hq
  refine⟨⟨by rw[e1];exact h.ok,by rw[e1];exact h.low,?_⟩,by rw[e1];exact hrefl⟩
  rw[e1,e2]
  intro p hp
  rcases qb hp with hp | rfl
  ·exact h.ph p hp
  ·exact hq
 have at_:∀{p:Ph},S.ph[i]?=some p→wg A b S.cell p:=fun hp=>h.ph _ (bH hp)
 cases hs with
 |stay=>exact⟨h,hrefl⟩
 |uc a hp ha=>exact jQ rfl rfl trivial
 |ud a hp hd=>exact jQ rfl rfl trivial
 |tG a hp ha=>exact jQ rfl rfl trivial
 |tH a hp=>exact jQ rfl rfl trivial
 |ask hp hc=>exact jQ rfl rfl trivial
 |tQ v o u r a hp ha=>
  obtain⟨h1,h2,h3,h4⟩:=at_ hp
  exact jQ rfl rfl ⟨h1,h2,h3,h4⟩
 |pop v c a hp hd=>exact jQ rfl rfl trivial
 |cas v a hp hd=>exact jQ rfl rfl trivial
 |uM v hp=>exact jQ rfl rfl trivial
 |cc j v c a hp hd=>exact jQ rfl rfl trivial
 |clear v hp=>exact jQ rfl rfl ⟨(uQ A.W).elim (fun h=>.inr ⟨h,rfl⟩) .inl,fun i hi=>by cases hi⟩
 |tO v y hp hy=>
  obtain⟨h1,h2⟩:=at_ hp
  have hv:=ht.at_ hp (v:=v) (by simp[nodes])
  refine jQ rfl rfl ⟨.inl (by simp;omega),fun j hj=>?_⟩
  simp at hj
  rw[GQ]
  by_cases jl:j<y.length
  ·rw[ag jl];exact h2 j jl
  ·have:j=y.length:=by omega
   subst this
   rw[ah (by omega),ag rfl]
   exact⟨h.ok v _ hv (by omega),hrefl v _ hv (by omega)⟩
 |tP v y y' hp hy=>
  obtain⟨h1,h2⟩:=at_ hp
  have hv:=ht.at_ hp (v:=v) (by simp[nodes])
  have uw:y'.length=A.W∧∀j,j<A.W→A.ok j (y'.getD j 0)∧A.jw (y'.getD j 0) (S.cell v j)=S.cell v j:=by
   rcases hy with ⟨hl,rfl⟩ | ⟨hw,rfl⟩
   ·refine⟨by simpa using hl,fun j hj=>?_⟩
    rw[GQ]
    by_cases jl:j<y.length
    ·rw[ag jl];exact h2 j jl
    ·have:j=y.length:=by omega
     subst this
     rw[ah (by omega),ag rfl]
     exact⟨h.ok v _ hv (by omega),hrefl v _ hv (by omega)⟩
   ·exact⟨hw.symm,fun j hj=>by omega⟩
  obtain⟨k1,k2⟩:=A.H8 hv uw.1 fun j hj=>(uw.2 j hj).1
  have oS:=GU (A:=A) b v
  obtain⟨m1,m2⟩:=A.H8 hv oS fun j hj=>by rw[CU b v hj];exact hb.ok v j hv hj
  have agO:=A.mono hv uw.1 oS (fun j hj=>(uw.2 j hj).1) (fun j hj=>by rw[CU b v hj];exact hb.ok v j hv hj) fun j hj=>by
   rw[CU b v hj]
   exact le_trans (uw.2 j hj).1 (h.ok v j hv hj) (hb.ok v j hv hj) (uw.2 j hj).2 (h.low v j hv hj)
  refine jQ rfl rfl (Dt ⟨k1,k2,fun u hu j hj=>?_⟩ fun z hz=>hz)
  exact le_trans (k2 j hj) (m2 j hj) (hb.ok u j (A.DT hv hu) hj) (agO j hj) (hb.out v hv u hu j hj)
 |load v o u r a ch hp ha hx=>
  obtain⟨h1,h2,h3,h4,_⟩:=at_ hp
  exact jQ rfl rfl ⟨h1,h2,h3,h4,fun _ _=>ha⟩
 |same v o u r a ch hp ha hx=>
  obtain⟨h1,h2,h3,h4,_⟩:=at_ hp
  have hu:=ht.at_ hp (v:=u) (by simp[nodes])
  refine jQ rfl rfl (Ta h1 h2 h3 fun j hj hw=>?_)
  rcases wR (yz hj) with hj | rfl
  ·exact h4 j hj hw
  ·rw[A.comm (h1.ok j hw) (h.ok u j hu hw),hx]
 |lost v o u r a ch x hp ha hx=>
  obtain⟨h1,h2,h3,h4,_⟩:=at_ hp
  exact jQ rfl rfl ⟨h1,h2,h3,h4,fun _ hx=>by cases hx⟩
 |uo v o u r a ch hp ha hx=>
  obtain⟨h1,h2,h3,h4,_⟩:=at_ hp
  have hu:=ht.at_ hp (v:=u) (by simp[nodes])
  have yh:=h1.ok a ha
  have mT:=h.ok u a hu ha
  have bF:∀v' j,v'<A.n→j<A.W→A.ok j (dm S.cell u a (A.jw (S.cell u a) (o.getD a 0)) v' j):=fun v' j oQ hj=>by
   by_cases he:v'=u∧j=a
   ·obtain⟨rfl,rfl⟩:=he
    rw[AT];exact A.Ob mT yh
   ·rw[tE he];exact h.ok v' j oQ hj
  have Ia:∀v' j,v'<A.n→j<A.W→A.jw (S.cell v' j) (dm S.cell u a (A.jw (S.cell u a) (o.getD a 0)) v' j)=dm S.cell u a (A.jw (S.cell u a) (o.getD a 0)) v' j:=fun v' j oQ hj=>by
   by_cases he:v'=u∧j=a
   ·obtain⟨rfl,rfl⟩:=he
    rw[AT];exact Ma mT yh
   ·rw[tE he];exact hrefl v' j oQ hj
  refine⟨⟨bF,fun v' j oQ hj=>?_,?_⟩,Ia⟩
  ·show A.jw (dm S.cell u a (A.jw (S.cell u a) (o.getD a 0)) v' j) (b v' j)=b v' j
   by_cases he:v'=u∧j=a
   ·obtain⟨rfl,rfl⟩:=he
    rw[AT]
    exact ae4 mT yh (hb.ok _ _ hu ha) (h.low _ _ hu ha) (h1.low _ h2 _ ha)
   ·rw[tE he];exact h.low v' j oQ hj
  ·intro p nO
   rcases qb nO with nO | rfl
   ·exact (h.ph p nO).ahq (ht.sM p nO) h.ok bF Ia
   ·refine Ta h1 h2 h3 fun j hj hw=>?_
    show A.jw (o.getD j 0) (dm S.cell u a (A.jw (S.cell u a) (o.getD a 0)) u j)=dm S.cell u a (A.jw (S.cell u a) (o.getD a 0)) u j
    rcases wR (yz hj) with hj | rfl
    ·rw[tE (fun e=>by omega)];exact h4 j hj hw
    ·rw[AT];exact S6 mT yh
 |none v o u r hp ha=>
  obtain⟨h1,h2,h3,h4,_⟩:=at_ hp
  exact jQ rfl rfl (Dt h1 h3)
 |flag v o u r hp hf=>
  obtain⟨h1,h2,h3,h4⟩:=at_ hp
  exact jQ rfl rfl ⟨h1,h2,h3,h4⟩
 |uf v o u r hp hf=>
  obtain⟨h1,h2,h3,h4⟩:=at_ hp
  exact jQ rfl rfl (Dt h1 h3)
 |add v o u r hp=>
  obtain⟨h1,h2,h3,h4⟩:=at_ hp
  exact jQ rfl rfl ⟨h1,h2,h3,h4⟩
 |push v o u r c hp hd=>
  obtain⟨h1,h2,h3,h4⟩:=at_ hp
  exact jQ rfl rfl (Dt h1 h3)
 |dA v hp=>exact jQ rfl rfl trivial
 |ua hp hc=>exact jQ rfl rfl trivial
end SX
end Go.Proofs.YtnikdflhefijbaaGreat
namespace Go.Proofs.YtnikdflhefijbaaGreat
set_option maxRecDepth 100000
set_option maxHeartbeats 4000000
namespace SX
variable {A:AP}
def H7(v:Nat):Ph→Prop
 |.join _ _ u _ _ _ ch=>u=v∧ch=true
 |.take _ _ u _=>u=v
 |_=>False
def xM(cell:Nat→Nat→Int)(v:Nat):Ph→Prop
 |.read z y=>z=v∧∀i,i<y.length→y.getD i 0=cell v i
 |_=>False
def BD(A:AP)(cell:Nat→Nat→Int)(v u:Nat):Ph→Prop
 |.join z o u' r _ _ _=>z=v∧o=A.out v (l6 A cell v)∧(u=u'∨u∈r)
 |.take z o _ r | .add z o _ r | .push z o _ r _=>z=v∧o=A.out v (l6 A cell v)∧u∈r
 |_=>False
def BN(A:AP)(cell:Nat→Nat→Int)(v u:Nat):Prop:=∀i,i<A.W→A.jw ((A.out v (l6 A cell v)).getD i 0) (cell u i)=cell u i
def yG(A:AP)(S:AS)(v:Nat):Prop:=
 S.flag v=true∨(∃p∈S.ph,H7 v p)∨(∃p∈S.ph,xM S.cell v p)∨∀u∈A.nx v,BN A S.cell v u∨∃p∈S.ph,BD A S.cell v u p
theorem QP{α:Type}{l:List α}{i:Nat}{p q x:α}(hi:l[i]?=some p)(hx:x∈l):x=p∨x∈l.set i q:=by
 obtain⟨j,hj⟩:=kI.1 hx
 by_cases h:i=j
 ·subst h;rw[hi]at hj;exact .inl (Option.some.inj hj).symm
 ·right
  refine kI.2 ⟨j,?_⟩
  rw[dY,ah h];exact hj
theorem PV{α:Type}{l:List α}{i:Nat}{p q:α}(hi:l[i]?=some p):q∈l.set i q:=by
 refine kI.2 ⟨i,?_⟩
 rw[dY,ag rfl,ag (bQ.1 hi).1]
theorem yG.keep{S S':AS}{i:Nat}{p q:Ph}{v:Nat}(h:yG A S v)(hi:S.ph[i]?=some p)(e1:S'.cell=S.cell)(e2:S'.ph=S.ph.set i q)
  (hf:S.flag v=true→S'.flag v=true∨xM S.cell v q) (hp:H7 v p→H7 v q∨S'.flag v=true) (hr:xM S.cell v p→xM S.cell v q∨∀u∈A.nx v,BD A S.cell v u q) (hc:∀u,BD A S.cell v u p→BD A S.cell v u q∨BN A S.cell v u):yG A S' v:=by
 have hq:q∈S'.ph:=by rw[e2];exact PV hi
 have hm:∀x∈S.ph,x=p∨x∈S'.ph:=fun x hx=>by rw[e2];exact QP hi hx
 rcases h with h | ⟨x,hx,h⟩ | ⟨x,hx,h⟩ | h
 ·rcases hf h with h | h
  ·exact .inl h
  ·exact .inr (.inr (.inl ⟨q,hq,by rw[e1];exact h⟩))
 ·rcases hm x hx with rfl | hx
  ·rcases hp h with h | h
   ·exact .inr (.inl ⟨q,hq,h⟩)
   ·exact .inl h
  ·exact .inr (.inl ⟨x,hx,h⟩)
 ·rcases hm x hx with rfl | hx
  ·rcases hr h with h | h
   ·exact .inr (.inr (.inl ⟨q,hq,by rw[e1];exact h⟩))
   ·exact .inr (.inr (.inr fun u hu=>.inr ⟨q,hq,by rw[e1];exact h u hu⟩))
  ·exact .inr (.inr (.inl ⟨x,hx,by rw[e1];exact h⟩))
 ·refine .inr (.inr (.inr fun u hu=>?_))
  rw[e1]
  rcases h u hu with h | ⟨x,hx,h⟩
  ·exact .inl h
  ·rcases hm x hx with rfl | hx
   ·rcases hc u h with h | h
    ·exact .inr ⟨q,hq,h⟩
    ·exact .inl h
   ·exact .inr ⟨x,hx,h⟩
theorem C9{cell:Nat→Nat→Int}{v z:Nat}{o:List Int}{r:List Nat}{u:Nat}(h1:z=v)(h2:o=A.out v (l6 A cell v))(h3:u∈r):BD A cell v u (eB z o r):=by
 cases r with
 |nil=>cases h3
 |cons w r=>exact⟨h1,h2,by simpa using h3⟩
theorem QR{v z:Nat}{o:List Int}{u:Nat}{r:List Nat}{at_:Nat}{ch:Bool}(h:u=v∧ch=true):H7 v (dI A z o u r at_ ch).1:=by
 obtain⟨h1,rfl⟩:=h
 unfold dI
 split
 ·exact⟨h1,rfl⟩
 ·rw[ag rfl];exact h1
theorem RK{cell:Nat→Nat→Int}{v z:Nat}{o:List Int}{u w:Nat}{r:List Nat}{at_:Nat}{ch:Bool}(h1:z=v)(h2:o=A.out v (l6 A cell v))(h3:w=u∨w∈r)(hj:∀i,i<at_+1→i<A.W→A.jw (o.getD i 0) (cell u i)=cell u i):BD A cell v w (dI A z o u r at_ ch).1∨BN A cell v w:=by
 unfold dI
 split
 ·exact .inl ⟨h1,h2,h3⟩
 ·rename_i hw
  rcases h3 with rfl | h3
  ·exact .inr fun i hi=>by rw[← h2];exact hj i (by omega) hi
  ·split
   ·exact .inl ⟨h1,h2,h3⟩
   ·exact .inl (C9 h1 h2 h3)
theorem PM{y z:List Int}(hl:y.length=z.length)(h:∀i,i<y.length→y.getD i 0=z.getD i 0):y=z:=by
 refine Cn hl fun i h1 h2=>?_
 have:=h i h1
 simpa [List.getD_eq_getElem?_getD,h1,h2]using this
theorem yG.step{b:Nat→Nat→Int}{S S':AS}{i:Nat}(ht:TI A S)(hv:VI A b S)(hs:Tr A S i S'){v:Nat}(cX:v<A.n)(h:yG A S v):yG A S' v:=by
 have at_:∀{p:Ph},S.ph[i]?=some p→wg A b S.cell p:=fun hp=>hv.ph _ (bH hp)
 cases hs with
 |stay=>exact h
 |uc a hp ha=>exact h.keep hp rfl rfl .inl (fun h=>h.elim) (fun h=>h.elim) fun u h=>h.elim
 |ud a hp hd=>exact h.keep hp rfl rfl .inl (fun h=>h.elim) (fun h=>h.elim) fun u h=>h.elim
 |tG a hp ha=>exact h.keep hp rfl rfl .inl (fun h=>h.elim) (fun h=>h.elim) fun u h=>h.elim
 |tH a hp=>exact h.keep hp rfl rfl .inl (fun h=>h.elim) (fun h=>h.elim) fun u h=>h.elim
 |ask hp hc=>exact h.keep hp rfl rfl .inl (fun h=>h.elim) (fun h=>h.elim) fun u h=>h.elim
 |tQ z o u r a hp ha=>exact h.keep hp rfl rfl .inl (fun h=>h.elim) (fun h=>h.elim) fun u h=>.inl h
 |pop z c a hp hd=>exact h.keep hp rfl rfl .inl (fun h=>h.elim) (fun h=>h.elim) fun u h=>h.elim
 |cas z a hp hd=>exact h.keep hp rfl rfl .inl (fun h=>h.elim) (fun h=>h.elim) fun u h=>h.elim
 |uM z hp=>exact h.keep hp rfl rfl .inl (fun h=>h.elim) (fun h=>h.elim) fun u h=>h.elim
 |cc j z c a hp hd=>exact h.keep hp rfl rfl .inl (fun h=>h.elim) (fun h=>h.elim) fun u h=>h.elim
 |clear z hp=>
  refine h.keep hp rfl rfl (fun hf=>?_) (fun h=>h.elim) (fun h=>h.elim) fun u h=>h.elim
  by_cases hz:v=z
  ·exact .inr ⟨hz.symm,fun i hi=>absurd hi (ml _)⟩
  ·left;show (if v=z then false else S.flag v)=true;rw[ah hz];exact hf
 |tO z y hp hy=>
  refine h.keep hp rfl rfl .inl (fun h=>h.elim) (fun h=>.inl ?_) fun u h=>h.elim
  obtain⟨rfl,h2⟩:=h
  refine⟨rfl,fun j hj=>?_⟩
  simp at hj
  rw[GQ]
  by_cases jl:j<y.length
  ·rw[ag jl];exact h2 j jl
  ·rw[ah jl,ag (by omega),show j=y.length by omega]
 |tP z y y' hp hy=>
  refine h.keep hp rfl rfl .inl (fun h=>h.elim) (fun h=>.inr fun u hu=>?_) fun u h=>h.elim
  obtain⟨rfl,h2⟩:=h
  have e:y'=l6 A S.cell z:=by
   rcases hy with ⟨hl,rfl⟩ | ⟨hw,rfl⟩
   ·refine PM (by rw[GU];simpa using hl) fun j hj=>?_
    simp at hj
    rw[CU _ _ (by omega),GQ]
    by_cases jl:j<y.length
    ·rw[ag jl];exact h2 j jl
    ·rw[ah jl,ag (by omega),show j=y.length by omega]
   ·exact PM (by rw[GU];exact hw.symm) fun j hj=>absurd hj (ml _)
  exact C9 rfl (by rw[e]) hu
 |load z o u r a ch hp ha hx=>exact h.keep hp rfl rfl .inl .inl (fun h=>h.elim) fun u h=>.inl h
 |same z o u r a ch hp ha hx=>
  obtain⟨h1,h2,h3,h4,_⟩:=at_ hp
  have hu:=ht.at_ hp (v:=u) (by simp[nodes])
  refine h.keep hp rfl rfl .inl (fun h=>.inl (QR h)) (fun h=>h.elim) fun w hw=>?_
  obtain⟨k1,k2,k3⟩:=hw
  refine RK k1 k2 k3 fun j hj hw=>?_
  rcases wR (yz hj) with hj | rfl
  ·exact h4 j hj hw
  ·rw[A.comm (h1.ok j hw) (hv.ok u j hu hw),hx]
 |lost z o u r a ch x hp ha hx=>exact h.keep hp rfl rfl .inl .inl (fun h=>h.elim) fun u h=>.inl h
 |uo z o u r a ch hp ha hx=>
  obtain⟨h1,h2,h3,h4,_⟩:=at_ hp
  have hu:=ht.at_ hp (v:=u) (by simp[nodes])
  have yh:=h1.ok a ha
  have mT:=hv.ok u a hu ha
  have hq:(dI A z o u r a true).1∈(S.ph.set i (dI A z o u r a true).1):=PV hp
  by_cases Je:v=u
  ·exact .inr (.inl ⟨_,hq,QR ⟨Je.symm,rfl⟩⟩)
  ·have lE:∀j,dm S.cell u a (A.jw (S.cell u a) (o.getD a 0)) v j=S.cell v j:=fun j=>tE fun e=>Je e.1
   have hL:l6 A (dm S.cell u a (A.jw (S.cell u a) (o.getD a 0))) v=l6 A S.cell v:=aaB Je
   have hle:∀w∈A.nx v,BN A S.cell v w→BN A (dm S.cell u a (A.jw (S.cell u a) (o.getD a 0))) v w:=fun w hw hl j hj=>by
    rw[hL]
    have E0:=A.DT cX hw
    by_cases he:w=u∧j=a
    ·obtain⟨rfl,rfl⟩:=he
     rw[AT]
     obtain⟨m1,m2⟩:=A.H8 cX (GU (A:=A) S.cell v) fun j hj=>by rw[CU _ _ hj];exact hv.ok v j cX hj
     exact le_trans (m2 _ hj) mT (A.Ob mT yh) (hl _ hj) (Ma mT yh)
    ·rw[tE he];exact hl j hj
   have hm:∀x∈S.ph,x=.join z o u r a (some (S.cell u a)) ch∨x∈S.ph.set i (dI A z o u r a true).1:=fun x hx=>QP hp hx
   rcases h with h | ⟨x,lM,h⟩ | ⟨x,lM,h⟩ | h
   ·exact .inl h
   ·rcases hm x lM with rfl | lM
    ·exact absurd h.1.symm Je
    ·exact .inr (.inl ⟨x,lM,h⟩)
   ·rcases hm x lM with rfl | lM
    ·exact h.elim
    ·refine .inr (.inr (.inl ⟨x,lM,?_⟩))
     cases x with
     |read z' y=>exact⟨h.1,fun j hj=>by rw[h.2 j hj];exact (lE j).symm⟩
     |_=>exact h.elim
   ·refine .inr (.inr (.inr fun w hw=>?_))
    rcases h w hw with h | ⟨x,lM,h⟩
    ·exact .inl (hle w hw h)
    ·rcases hm x lM with rfl | lM
     ·obtain⟨k1,k2,k3⟩:=h
      have E0:=A.DT cX hw
      have:=RK (A:=A) (cell:=dm S.cell u a (A.jw (S.cell u a) (o.getD a 0))) (r:=r) (at_:=a) (ch:=true) k1 (k2.trans (by rw[hL])) k3 fun j hj hw=>by
       rcases wR (yz hj) with hj | rfl
       ·rw[tE (fun e=>by omega)];exact h4 j hj hw
       ·rw[AT];exact S6 mT yh
      rcases this with h | h
      ·exact .inr ⟨_,hq,h⟩
      ·exact .inl h
     ·right
      refine⟨x,lM,?_⟩
      cases x with
      |join z' o' u' r' a' ld' ch'=>exact⟨h.1,h.2.1.trans (by rw[hL]),h.2.2⟩
      |take z' o' u' r'=>exact⟨h.1,h.2.1.trans (by rw[hL]),h.2.2⟩
      |add z' o' u' r'=>exact⟨h.1,h.2.1.trans (by rw[hL]),h.2.2⟩
      |push z' o' u' r' a'=>exact⟨h.1,h.2.1.trans (by rw[hL]),h.2.2⟩
      |_=>exact h.elim
 |none z o u r hp ha=>
  obtain⟨h1,h2,h3,h4,_⟩:=at_ hp
  refine h.keep hp rfl rfl .inl (fun h=>by cases h.2) (fun h=>h.elim) fun w hw=>?_
  obtain⟨k1,k2,k3⟩:=hw
  rcases k3 with rfl | k3
  ·exact .inr fun i hi=>by omega
  ·exact .inl (C9 k1 k2 k3)
 |flag z o u r hp hf=>
  refine h.keep hp rfl rfl (fun h=>.inl ?_) (fun h=>.inr ?_) (fun h=>h.elim) fun u h=>.inl h
  ·show (if v=u then true else S.flag v)=true;(split);rfl;exact h
  ·have h:u=v:=h
   show (if v=u then true else S.flag v)=true;rw[ag h.symm]
 |uf z o u r hp hf=>
  refine h.keep hp rfl rfl .inl (fun h=>.inr ?_) (fun h=>h.elim) fun w hw=>.inl (C9 hw.1 hw.2.1 hw.2.2)
  have h:u=v:=h
  rw[← h];exact hf
 |add z o u r hp=>exact h.keep hp rfl rfl .inl (fun h=>h.elim) (fun h=>h.elim) fun u h=>.inl h
 |push z o u r c hp hd=>exact h.keep hp rfl rfl .inl (fun h=>h.elim) (fun h=>h.elim) fun w hw=>.inl (C9 hw.1 hw.2.1 hw.2.2)
 |dA z hp=>exact h.keep hp rfl rfl .inl (fun h=>h.elim) (fun h=>h.elim) fun u h=>h.elim
 |ua hp hc=>exact h.keep hp rfl rfl .inl (fun h=>h.elim) (fun h=>h.elim) fun u h=>h.elim
theorem qY{α:Type}{f:α→Nat}:∀{l:List α},(∀x∈l,f x=0)→aF f l=0
 | [],_=>rfl
 |a::l,h=>by
  show f a+aF f l=0
  rw[h a (bV ..),qY fun x hx=>h x (cE _ hx)]
theorem TI.quiet{S:AS}(h:TI A S)(h0:S.aD=0):(∀c∈S.dq,c=[])∧(∀p∈S.ph,(∃d a,p=.idle d a)∨p=.done)∧∀v,S.flag v=false:=by
 have hc:=h.aD
 have h1:∀c∈S.dq,c=[]:=fun c jU=>iS.1 (Sn List.length (by omega) jU)
 have h2:∀p∈S.ph,(∃d a,p=.idle d a)∨p=.done:=fun p hp=>by
  have:=Sn cw (l:=S.ph) (by omega) hp
  cases p <;> simp[cw]at this <;> simp
 refine⟨h1,h2,fun v=>?_⟩
 have ht:=h.tok v
 have e1:aF (fun l:List Nat=>l.count v) S.dq=0:=qY fun c hc=>by rw[h1 c hc];rfl
 have e2:aF (iO v) S.ph=0:=qY fun p hp=>by rcases h2 p hp with ⟨d,a,rfl⟩ | rfl <;> rfl
 unfold SX.tok at ht
 rw[e1,e2]at ht
 cases hf:S.flag v with
 |false=>rfl
 |true=>rw[hf]at ht;cases ht
def Rest(S:AS):Prop:=.done∈S.ph→S.aD=0
theorem Rest.step{S S':AS}{i:Nat}(ht:TI A S)(h:Rest S)(hs:Tr A S i S'):Rest S':=by
 have key:∀{p q:Ph},S.ph[i]?=some p→q≠.done→Ph.done∈S.ph.set i q→S.aD=0:=fun hp hq hd=>by
  rcases qb hd with hd | hd
  ·exact h hd
  ·exact absurd hd.symm hq
 have hj:∀v o u r a ch,(dI A v o u r a ch).1≠.done:=fun v o u r a ch=>by
  unfold dI;split
  ·exact fun h=>by cases h
  ·split
   ·exact fun h=>by cases h
   ·cases r <;> exact fun h=>by cases h
 have hf:∀v o r,eB v o r≠.done:=fun v o r=>by cases r <;> exact fun h=>by cases h
 intro hd
 cases hs with
 |stay=>exact h hd
 |uc a hp ha=>exact key hp (fun h=>by cases h) hd
 |ud a hp ha=>exact key hp (fun h=>by cases h) hd
 |tG a hp ha=>exact key hp (fun h=>by cases h) hd
 |tH a hp=>exact key hp (fun h=>by cases h) hd
 |ask hp hc=>exact key hp (fun h=>by cases h) hd
 |tQ v o u r a hp ha=>exact key hp (fun h=>by cases h) hd
 |pop v c a hp h2=>exact key hp (fun h=>by cases h) hd
 |cas v a hp h2=>exact key hp (fun h=>by cases h) hd
 |uM v hp=>exact key hp (fun h=>by cases h) hd
 |cc j v c a hp h2=>exact key hp (fun h=>by cases h) hd
 |clear v hp=>exact key hp (fun h=>by cases h) hd
 |tO v y hp hy=>exact key hp (fun h=>by cases h) hd
 |tP v y y' hp hy=>exact key hp (hf _ _ _) hd
 |load v o u r a ch hp ha hx=>exact key hp (fun h=>by cases h) hd
 |same v o u r a ch hp ha hx=>exact key hp (hj _ _ _ _ _ _) hd
 |lost v o u r a ch x hp ha hx=>exact key hp (fun h=>by cases h) hd
 |uo v o u r a ch hp ha hx=>exact key hp (hj _ _ _ _ _ _) hd
 |none v o u r hp ha=>exact key hp (hf _ _ _) hd
 |flag v o u r hp h2=>exact key hp (fun h=>by cases h) hd
 |uf v o u r hp h2=>exact key hp (hf _ _ _) hd
 |add v o u r hp=>
  have h0:=key hp (fun h=>by cases h) hd
  have:=ht.aD
  have:=y4 cw S.ph i _ hp
  simp[cw]at this
  omega
 |push v o u r c hp h2=>exact key hp (hf _ _ _) hd
 |dA v hp=>show S.aD-1=0;rw[key hp (fun h=>by cases h) hd]
 |ua hp hc=>exact hc
def gX:Ph→Nat
 |.held _ | .clear _ | .read .. | .take .. | .add .. | .push .. => 1
 |_=>0
theorem Du(v:Nat)(o:List Int)(r:List Nat):gX (eB v o r)=0:=by cases r <;> rfl
theorem Tb(A:AP)(v:Nat)(o:List Int)(u:Nat)(r:List Nat)(at_:Nat)(ch:Bool):gX (dI A v o u r at_ ch).1=(dI A v o u r at_ ch).2:=by
 unfold dI;split
 ·rfl
 ·split
  ·rfl
  ·exact Du _ _ _
def EI(S:AS)(n:Nat):Prop:=S.ev+aF List.length S.dq+aF gX S.ph≤n+S.jo
theorem EI.step{S S':AS}{i n:Nat}(h:EI S n)(hs:Tr A S i S'):EI S' n:=by
 unfold EI at h ⊢
 have key:=fun p q (hp:S.ph[i]?=some p)=>eW gX S.ph i p q hp
 have Iy:=fun j (c d:List Nat) (hp:S.dq[j]?=some c)=>eW List.length S.dq j c d hp
 cases hs with
 |stay=>exact h
 |uc a hp ha=>have:=key _ (.idle 0 (a+1)) hp;simp only[gX]at *;omega
 |ud a hp ha=>have:=key _ (.idle (if A.k<2 then 2 else 1) 0) hp;simp only[gX]at *;omega
 |tG a hp ha=>have:=key _ (.idle 1 (a+1)) hp;simp only[gX]at *;omega
 |tH a hp=>have:=key _ (.idle 2 0) hp;simp only[gX]at *;omega
 |ask hp hc=>have:=key _ (.idle (if A.k<2 then 0 else 1) 0) hp;simp only[gX]at *;omega
 |tQ v o u r a hp ha=>have:=key _ (.push v o u r (a+1)) hp;simp only[gX]at *;omega
 |pop v c a hp hd=>have:=key _ (.clear v) hp;have:=Iy _ _ c hd;simp[gX]at *;omega
 |cas v a hp hd=>have:=key _ (.held v) hp;have:=Iy _ _ [] hd;simp[gX]at *;omega
 |uM v hp=>have:=key _ (.clear v) hp;simp[gX]at *;omega
 |cc j v c a hp hd=>have:=key _ (.clear v) hp;have:=Iy _ _ c hd;simp[gX]at *;omega
 |clear v hp=>have:=key _ (.read v []) hp;simp[gX]at *;omega
 |tO v y hp hy=>have:=key _ (.read v (y++[S.cell v y.length])) hp;simp only[gX]at *;omega
 |tP v y y' hp hy=>have:=key _ (eB v (A.out v y') (A.nx v)) hp;rw[Du]at this;simp only[gX]at *;omega
 |load v o u r a ch hp ha hx=>have:=key _ (.join v o u r a (some (S.cell u a)) ch) hp;simp only[gX]at *;omega
 |same v o u r a ch hp ha hx=>have:=key _ (dI A v o u r a ch).1 hp;rw[Tb]at this;simp only[gX]at *;omega
 |lost v o u r a ch x hp ha hx=>have:=key _ (.join v o u r a none ch) hp;simp only[gX]at *;omega
 |uo v o u r a ch hp ha hx=>have:=key _ (dI A v o u r a true).1 hp;rw[Tb]at this;simp only[gX]at *;omega
 |none v o u r hp ha=>have:=key _ (eB v o r) hp;rw[Du]at this;simp only[gX]at *;omega
 |flag v o u r hp hf=>have:=key _ (.add v o u r) hp;simp only[gX]at *;omega
 |uf v o u r hp hf=>have:=key _ (eB v o r) hp;rw[Du]at this;simp only[gX]at *;omega
 |add v o u r hp=>have:=key _ (.push v o u r 0) hp;simp only[gX]at *;omega
 |push v o u r c hp hd=>have:=key _ (eB v o r) hp;rw[Du]at this;have:=Iy _ _ (c++[u]) hd;simp only[gX,bG,se]at *;omega
 |dA v hp=>have:=key _ (.idle 0 0) hp;simp only[gX]at *;omega
 |ua hp hc=>have:=key _ .done hp;simp only[gX]at *;omega
def fJ:Ph→Nat
 |.join _ _ _ _ _ _ true=>1
 |_=>0
theorem Dw(v:Nat)(o:List Int)(r:List Nat):fJ (eB v o r)=0:=by cases r <;> rfl
theorem Td(A:AP)(v:Nat)(o:List Int)(u:Nat)(r:List Nat)(at_:Nat)(ch:Bool):fJ (dI A v o u r at_ ch).1+(dI A v o u r at_ ch).2=if ch then 1 else 0:=by
 unfold dI;split
 ·cases ch <;> rfl
 ·cases ch with
  |true=>rfl
  |false=>show fJ (eB v o r)+0=0;rw[Dw]
structure I1(A:AP)(Us:List Nat)(rk:(Nat→Int)→Nat):Prop where
 nodup:Us.Nodup
 all:∀v,v<A.n→∀u∈A.nx v,u∈Us
 up:∀(c:Nat→Int) (i:Nat) (x:Int),i<A.W→(∀j,j<A.W→A.ok j (c j))→A.ok i x→A.jw (c i) x≠c i→rk c+1≤rk fun j=>if j=i then A.jw (c i) x else c j
def JI(S:AS)(Us:List Nat)(rk:(Nat→Int)→Nat):Prop:=S.jo+aF fJ S.ph≤aF (fun u=>rk (S.cell u)) Us
theorem Au{α:Type}{f g:α→Nat}:∀{l:List α},(∀x∈l,f x=g x)→aF f l=aF g l
 | [],_=>rfl
 |a::l,h=>by
  show f a+aF f l=g a+aF g l
  rw[h a (bV ..),Au fun x hx=>h x (cE _ hx)]
theorem Hh{f g:Nat→Nat}{u:Nat}:∀{l:List Nat},l.Nodup→u∈l→(∀x∈l,x≠u→f x=g x)→aF f l+g u=aF g l+f u
 |a::l,hn,hu,h=>by
  obtain⟨h1,h2⟩:=lp.1 hn
  show f a+aF f l+g u=g a+aF g l+f u
  rcases da.1 hu with rfl | hu
  ·rw[Au (f:=f) (g:=g) (l:=l) fun x hx=>h x (cE _ hx) fun e=>h1 (e▸hx)]
   omega
  ·have:=Hh h2 hu fun x hx=>h x (cE _ hx)
   rw[h a (bV ..) fun e=>h1 (e▸hu)]
   omega
theorem JI.step{b:Nat→Nat→Int}{S S':AS}{i:Nat}{Us:List Nat}{rk:(Nat→Int)→Nat}(hr:I1 A Us rk)(ht:TI A S)(hv:VI A b S)(h:JI S Us rk)(hs:Tr A S i S'):JI S' Us rk:=by
 unfold JI at h ⊢
 have key:=fun p q (hp:S.ph[i]?=some p)=>eW fJ S.ph i p q hp
 cases hs with
 |stay=>exact h
 |uc a hp ha=>have:=key _ (.idle 0 (a+1)) hp;simp only[fJ]at *;omega
 |ud a hp ha=>have:=key _ (.idle (if A.k<2 then 2 else 1) 0) hp;simp only[fJ]at *;omega
 |tG a hp ha=>have:=key _ (.idle 1 (a+1)) hp;simp only[fJ]at *;omega
 |tH a hp=>have:=key _ (.idle 2 0) hp;simp only[fJ]at *;omega
 |ask hp hc=>have:=key _ (.idle (if A.k<2 then 0 else 1) 0) hp;simp only[fJ]at *;omega
 |tQ v o u r a hp ha=>have:=key _ (.push v o u r (a+1)) hp;simp only[fJ]at *;omega
 |pop v c a hp hd=>have:=key _ (.clear v) hp;simp only[fJ]at *;omega
 |cas v a hp hd=>have:=key _ (.held v) hp;simp only[fJ]at *;omega
 |uM v hp=>have:=key _ (.clear v) hp;simp only[fJ]at *;omega
 |cc j v c a hp hd=>have:=key _ (.clear v) hp;simp only[fJ]at *;omega
 |clear v hp=>have:=key _ (.read v []) hp;simp only[fJ]at *;omega
 |tO v y hp hy=>have:=key _ (.read v (y++[S.cell v y.length])) hp;simp only[fJ]at *;omega
 |tP v y y' hp hy=>have:=key _ (eB v (A.out v y') (A.nx v)) hp;rw[Dw]at this;simp only[fJ]at *;omega
 |load v o u r a ch hp ha hx=>
  have:=key _ (.join v o u r a (some (S.cell u a)) ch) hp
  have e:fJ (.join v o u r a (some (S.cell u a)) ch)=fJ (.join v o u r a none ch):=by cases ch <;> rfl
  rw[e]at this
  show S.jo+aF fJ (S.ph.set i _)≤aF (fun u=>rk (S.cell u)) Us
  omega
 |same v o u r a ch hp ha hx=>
  have:=key _ (dI A v o u r a ch).1 hp
  have e:=Td A v o u r a ch
  have e2:fJ (.join v o u r a none ch)=if ch then 1 else 0:=by cases ch <;> rfl
  rw[e2]at this
  show S.jo+(dI A v o u r a ch).2+aF fJ (S.ph.set i _)≤aF (fun u=>rk (S.cell u)) Us
  omega
 |lost v o u r a ch x hp ha hx=>
  have:=key _ (.join v o u r a none ch) hp
  have e:fJ (.join v o u r a (some x) ch)=fJ (.join v o u r a none ch):=by cases ch <;> rfl
  rw[e]at this
  show S.jo+aF fJ (S.ph.set i _)≤aF (fun u=>rk (S.cell u)) Us
  omega
 |uo v o u r a ch hp ha hx=>
  obtain⟨h1,h2,h3,h4,_⟩:=hv.ph _ (bH hp)
  have eP:=ht.at_ hp (v:=u) (by simp[nodes])
  have cX:=ht.at_ hp (v:=v) (by simp[nodes])
  have:=key _ (dI A v o u r a true).1 hp
  have e:=Td A v o u r a true
  rw[ag rfl]at e
  have lN:=hr.up (S.cell u) a (o.getD a 0) ha (fun j hj=>hv.ok u j eP hj) (h1.ok a ha) hx
  have lH:=Hh (f:=fun z=>rk (dm S.cell u a (A.jw (S.cell u a) (o.getD a 0)) z)) (g:=fun z=>rk (S.cell z)) hr.nodup (hr.all v cX u h2) fun z _ hz=>by
   show rk _=rk _
   congr 1
   funext j
   exact tE fun e=>hz e.1
  have e3:(dm S.cell u a (A.jw (S.cell u a) (o.getD a 0)) u)=fun j=>if j=a then A.jw (S.cell u a) (o.getD a 0) else S.cell u j:=by
   funext j;simp[dm]
  simp only[e3]at lH
  have hone':aF (fun z=>rk (dm S.cell u a (A.jw (S.cell u a) (o.getD a 0)) z)) Us+rk (S.cell u)=aF (fun z=>rk (S.cell z)) Us+rk (fun j=>if j=a then A.jw (S.cell u a) (o.getD a 0) else S.cell u j):=lH
  show S.jo+(dI A v o u r a true).2+aF fJ (S.ph.set i _)≤aF (fun z=>rk (dm S.cell u a (A.jw (S.cell u a) (o.getD a 0)) z)) Us
  omega
 |none v o u r hp ha=>have:=key _ (eB v o r) hp;rw[Dw]at this;simp only[fJ]at *;omega
 |flag v o u r hp hf=>have:=key _ (.add v o u r) hp;simp only[fJ]at *;omega
 |uf v o u r hp hf=>have:=key _ (eB v o r) hp;rw[Dw]at this;simp only[fJ]at *;omega
 |add v o u r hp=>have:=key _ (.push v o u r 0) hp;simp only[fJ]at *;omega
 |push v o u r c hp hd=>have:=key _ (eB v o r) hp;rw[Dw]at this;simp only[fJ]at *;omega
 |dA v hp=>have:=key _ (.idle 0 0) hp;simp only[fJ]at *;omega
 |ua hp hc=>have:=key _ .done hp;simp only[fJ]at *;omega
end SX
end Go.Proofs.YtnikdflhefijbaaGreat
