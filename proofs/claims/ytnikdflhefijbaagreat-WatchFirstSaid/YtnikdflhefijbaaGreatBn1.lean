import Derived.Below
import Derived.BigQuiet
import Derived.Carry
import Derived.ChangeOld
import Derived.Deep.OwnRows
import Derived.Deep.QuietTactic
import Derived.Deep.Slices
import Derived.Handy
import Derived.Maps.AppendAt
import Derived.OpenShut
import Derived.ProofKit
import Derived.ShutString
import Derived.Stop.IfaceNil
import Derived.Test.YtnikdflhefijbaaGreatRows
import Derived.WalkKit
import Derived.WalkLawsBesides
import Derived.WalkSpells
import Derived.Laws.ComplexArith
import Derived.RangeFuncRecord
import Derived.MapFrom
namespace Go.Proofs.YtnikdflhefijbaaGreat
open Go.RowKit
abbrev aW:= @List.getD_eq_getElem?_getD
abbrev bj:= @List.getElem?_eq_getElem
abbrev ck:= @List.getElem?_eq_some_iff
abbrev bh:= @List.mem_singleton
abbrev aL:= @decide_eq_true
abbrev bV:= @List.length_append
abbrev cu:= @List.mem_of_getElem?
abbrev ag:= @if_neg
abbrev ah:= @if_pos
abbrev bU:= @List.mem_cons_self
abbrev fw:= @List.take_succ_eq_append_getElem
abbrev bO:= @Int.toNat_natCast
abbrev bH:= @decide_eq_false
abbrev bL:= @Bool.and_eq_true
abbrev cR:= @Nat.le_of_ble_eq_true
abbrev bX:= @List.getElem_mem
abbrev bR:= @List.mem_append
abbrev cQ:= @List.mem_cons_of_mem
abbrev aR:= @Nat.le_refl
abbrev cj:= @List.length_map
abbrev fe:= @List.take_of_length_le
abbrev cM:= @List.length_set
abbrev bE:= @Nat.zero_le
abbrev gW:= @Array.getD_eq_getD_getElem?
abbrev iR:= @List.length_eq_zero_iff
abbrev dr:= @List.map_append
abbrev dQ:= @List.append_assoc
abbrev iQ:= @List.getElem?_append_right
abbrev gG:= @List.length_replicate
abbrev fm:= @List.getElem?_map
abbrev dA:= @List.mem_cons
abbrev e9:= @List.getElem?_set
abbrev gN:= @List.mem_append_left
abbrev fv:= @of_decide_eq_true
abbrev kh:= @List.getElem?_append_left
abbrev fu:= @List.take_length
abbrev fI:= @List.all_eq_true
abbrev dM:= @Nat.zero_add
abbrev dL:= @List.mem_map
abbrev eu:= @Nat.le_trans
abbrev jF:= @Nat.eq_of_beq_eq_true
abbrev jE:= @List.mem_append_right
abbrev gq:= @List.length_cons
abbrev gb:= @List.mem_range
abbrev lB:= @Int.toNat_of_nonneg
abbrev kg:= @Nat.mul_le_mul_right
abbrev er:= @Nat.mul_one
abbrev mC:= @Int.eq_ofNat_of_zero_le
abbrev jl:= @Bool.not_eq_true'
abbrev iP:= @List.drop_zero
abbrev qe:= @Array.getElem?_eq_getElem
abbrev mB:= @List.length_pos_iff
abbrev l4:= @Bool.false_eq_true
abbrev q9:= @List.mem_or_eq_of_mem_set
abbrev l0:= @List.length_range
abbrev lA:= @List.any_eq_true
abbrev o7:= @List.nodup_append
abbrev lZ:= @List.mem_filter
abbrev lY:= @List.nodup_cons
abbrev nf:= @List.mem_flatten
abbrev mZ:= @List.append_nil
abbrev wM:= @List.getElem?_replicate
abbrev sh:= @List.mem_iff_getElem?
abbrev td:= @List.length_singleton
abbrev uF:= @List.getElem?_eq_none
abbrev qd:= @of_decide_eq_false
abbrev nX:= @List.perm_middle
abbrev nV:= @Nat.not_lt_zero
abbrev jD:= @Int.le_refl
abbrev qc:= @List.size_toArray
abbrev qb:= @List.length_take
abbrev Cu:= @List.length_filter_le
abbrev qZ:= @List.getElem?_take
abbrev nU:= @List.map_set
abbrev tc:= @List.mem_iff_getElem
abbrev o6:= @Bool.or_eq_true
abbrev sg:= @Nat.lt_of_lt_of_le
abbrev tb:= @List.length_reverse
abbrev mY:= @Bool.false_or
abbrev uE:= @Nat.pow_le_pow_right
abbrev wL:= @Option.map_eq_some_iff
abbrev wK:= @Nat.testBit_lt_two_pow
abbrev ta:= @List.pairwise_cons
abbrev wJ:= @List.range_succ
abbrev yj:= @List.flatMap_append
abbrev Ct:= @List.ext_getElem
abbrev o0:= @List.map_cons
abbrev s9:= @List.foldl_append
abbrev z6:= @Array.getElem?_eq_some_iff
abbrev uD:= @Nat.eq_zero_or_pos
abbrev Cs:= @List.length_pos_of_mem
abbrev wI:= @List.getElem?_range
abbrev qa:= @Nat.succ_mul
abbrev Kn:= @Nat.ble_eq_true_of_le
abbrev zZ:= @List.take_append_drop
abbrev zY:= @List.getElem?_toArray
abbrev Cr:= @List.eq_of_mem_replicate
abbrev qY:= @Nat.sub_self
abbrev Cq:= @Int.tmod_eq_emod_of_nonneg
abbrev Km:= @Array.getElem?_append_left
abbrev nT:= @Nat.mod_lt
abbrev Kl:= @List.replicate_succ
abbrev yi:= @List.map_congr_left
abbrev yh:= @List.flatMap_cons
abbrev Cp:= @Array.toList_append
abbrev Kk:= @List.set_append_right
abbrev uB:= @Int.natCast_add
abbrev yg:= @Nat.lt_of_le_of_lt
abbrev zX:= @List.getElem?_drop
abbrev zW:= @List.filter_append
abbrev wH:= @Nat.mod_eq_of_lt
abbrev p9:= @Nat.add_mul
abbrev wG:= @List.not_mem_nil
abbrev s8:= @Nat.pow_zero
abbrev uA:= @Nat.mul_le_mul
abbrev yf:= @List.mem_reverse
abbrev Co:= @List.filter_cons
abbrev Cn:= @Array.getElem?_toList
abbrev sf:= @Nat.pow_add
abbrev FV:= @List.pairwise_iff_getElem
abbrev Cm:= @Nat.eq_of_testBit_eq
abbrev zV:= @List.pairwise_map
abbrev ye:= @List.nil_append
abbrev zU:= @List.ext_getElem?
abbrev Kj:= @Array.getElem?_setIfInBounds_ne
abbrev uz:= @Nat.lt_or_ge
abbrev Ki:= @List.eq_nil_iff_forall_not_mem
abbrev Kh:= @Array.eq_empty_of_size_eq_zero
abbrev gm8:= @List.flatten_append
abbrev wF:= @Bool.true_and
abbrev Kg:= @List.take_append_of_le_length
abbrev Kf:= @List.getElem_replicate
abbrev FU:= @List.drop_of_length_le
abbrev FT:= @Array.size_eq_zero_iff
abbrev Cl:= @Nat.lt_or_eq_of_le
abbrev Pz:= @Nat.add_sub_cancel
abbrev Cj:= @Bool.false_ne_true
abbrev Ke:= @Nat.testBit_two_pow_sub_one
abbrev wE:= @Nat.add_zero
abbrev FR:= @List.eq_nil_or_concat
abbrev Ci:= @List.all_append
abbrev Ch:= @Nat.le_of_lt_succ
abbrev go2:= @Nat.add_assoc
abbrev Cg:= @List.flatten_cons
abbrev Cf:= @List.any_eq_false
abbrev Ce:= @Bool.eq_false_iff
abbrev Kd:= @Int.tdiv_eq_ediv_of_nonneg
abbrev FQ:= @List.getElem?_of_mem
abbrev Kc:= @List.drop_eq_getElem_cons
abbrev Cd:= @Nat.le_add_right
abbrev FP:= @List.length_zipWith
abbrev Py:= @Array.length_toList
abbrev yd:= @Nat.zero_mul
abbrev yc:= @Nat.le_of_eq
abbrev yb:= @Nat.beq_refl
abbrev Cc:= @Nat.two_pow_pos
abbrev Kb:= @Nat.testBit_mod_two_pow
abbrev Ka:= @Nat.add_sub_cancel_left
abbrev FO:= @List.getElem_range
abbrev gp9:= @List.filter_cons_of_neg
abbrev Cb:= @Int.natCast_mul
abbrev Px:= @List.nodup_nil
abbrev Pw:= @Nat.and_two_pow_sub_one_eq_mod
abbrev Ca:= @List.map_map
abbrev J9:= @Array.getElem?_modify
abbrev FN:= @Option.getD_some
abbrev FM:= @List.getElem_set
abbrev FL:= @List.getElem_map
abbrev Pv:= @List.drop_append_of_le_length
abbrev FK:= @List.cons_append
abbrev J8:= @List.pairwise_append
abbrev J7:= @List.mem_erase_of_ne
abbrev B9:= @Nat.mul_assoc
abbrev Pu:= @List.mem_zipIdx_iff_getElem?
abbrev Pt:= @Nat.two_pow_add_eq_or_of_lt
abbrev Ps:= @Nat.testBit_two_pow_mul_add
abbrev J6:= @Nat.pos_iff_ne_zero
abbrev J5:= @Nat.min_eq_left
abbrev FJ:= @Nat.log2_eq_iff
abbrev FH:= @Nat.and_le_left
abbrev FG:= @List.foldl_cons
abbrev B8:= @Nat.mul_comm
abbrev J4:= @List.singleton_inj
abbrev J3:= @Int.tmod_lt_of_pos
abbrev J1:= @Int.natAbs_natCast
abbrev J0:= @Int.emod_lt_of_pos
abbrev JZ:= @Bool.not_eq_false'
abbrev FF:= @List.drop_drop
abbrev FE:= @List.count_nil
abbrev FD:= @Int.mul_nonneg
abbrev Pr:= @Int.mul_neg_of_neg_of_pos
abbrev JY:= @Nat.or_lt_two_pow
abbrev JX:= @List.getElem_take
abbrev JW:= @List.count_append
abbrev gt4:= @List.filter_cons_of_pos
abbrev FB:= @Bool.not_true
abbrev FA:= @Bool.and_true
abbrev JV:= @List.nodup_range
abbrev JU:= @List.countP_cons
abbrev JT:= @Option.map_some
abbrev JS:= @Nat.testBit_and
abbrev Fz:= @Nat.lt_trans
abbrev Pq:= @List.perm_append_comm
abbrev JR:= @List.map_const'
abbrev Pp:= @List.length_mergeSort
abbrev gu5:= @List.filter_nil
abbrev gu6:= @List.any_append
abbrev JQ:= @Int.natAbs_zero
abbrev Fy:= @Int.lt_or_le
abbrev JP:= @Int.emod_nonneg
abbrev gv0:= @Bool.beq_eq_decide_eq
abbrev B7:= @Int.not_lt
abbrev Po:= @List.getElem_zipWith
abbrev Pn:= @List.eraseIdx_set_eq
abbrev JO:= @Nat.testBit_or
abbrev JN:= @Int.natAbs_mul
abbrev JM:= @Int.mul_le_mul
abbrev JL:= @Bool.false_and
abbrev JK:= @Bool.and_false
abbrev Pm:= @Nat.testBit_two_pow
abbrev Pk:= @List.mem_map_of_mem
abbrev Pj:= @List.map_eq_flatMap
abbrev gw2:= @List.filter_eq_self
abbrev JJ:= @Nat.lt_irrefl
abbrev JH:= @List.sum_cons
abbrev Pg:= @List.mem_replicate
abbrev Pf:= @Int.natCast_nonneg
theorem tT{w:World}{k:Nat}{o:Obj}(h:w.heap[k]?=some o):k<w.heap.size:=(z6.1 h).1
theorem Hv{w:World}{k i:Nat}{c:Array Value}{t:TypeId}{fz:Nat×Nat}(h:w.heap[k]?=some (.cells c t fz)):w.cell? ⟨k,i,none⟩=c[i]?:=by simp[World.cell?,h]
theorem xb(w:World)(o:Obj):(w.alloc o).heap[w.heap.size]?=some o:=heap_alloc_new w o
end Go.Proofs.YtnikdflhefijbaaGreat
namespace Go.Proofs.YtnikdflhefijbaaGreat
open Go.RowKit Go.ChangeShapes Go.WideShapes Go.ChangeAt Go.Deep
inductive Sh where
 |int (k:IntKind)
 |bool
 |str
 |slice (e:Sh)
 |nil
 |field (f r:Sh)
def Sh.size:Sh→Nat
 |.int _=>1
 |.bool=>1
 |.str=>1
 |.slice _=>1
 |.nil=>0
 |.field f r=>f.size+r.size
def Sh.T:Sh→Type
 |.int _=>Int
 |.bool=>Bool
 |.str=>ByteArray
 |.slice e=>List e.T
 |.nil=>Unit
 |.field f r=>f.T×r.T
def Sh.NW:(s:Sh)→s.T
 |.int _=>(0:Int)
 |.bool=>false
 |.str=>ByteArray.empty
 |.slice _=>[]
 |.nil=>()
 |.field f r=>(f.NW,r.NW)
def vP(w:World)(b o:Nat)(cs:List Value):Prop:=∀j u,cs[j]?=some u→w.cell? ⟨b,o+j,none⟩=some u
def Reads(w:World):(s:Sh)→List Value→s.T→Prop
 |.int k,cs,(n:Int)=>cs=[.int k n]∧(Lit.int k n).wf=true
 |.bool,cs,(b:Bool)=>cs=[.bool b]
 |.str,cs,(s:ByteArray)=>cs=[.string s]∧s.size≤maxLen
 |.slice e,cs,(l:List e.T)=>∃(a:Option Addr) (c:Nat),cs=[.slice a l.length c]∧l.length≤c∧c≤maxLen∧(a=none→c=0)∧
   (l≠[]→∃b o,a=some ⟨b,o,none⟩∧∀i,(h:i<l.length)→∃cs',cs'.length=e.size∧vP w b (o+i*e.size) cs'∧Reads w e cs' l[i])
 |.nil,cs,_=>cs=[]
 |.field f r,cs,(d:f.T×r.T)=>∃c1 c2,cs=c1++c2∧c1.length=f.size∧Reads w f c1 d.1∧Reads w r c2 d.2
def Sh.fit(P:Program):Sh→Sum TypeId (List Field×Nat)→Bool
 |.int k,.inl t=>match P.underlying t with | some (.int k')=>decide (k=k') | _=>false
 |.bool,.inl t=>match P.underlying t with | some .bool=>true | _=>false
 |.str,.inl t=>match P.underlying t with | some .string=>true | _=>false
 |.slice e,.inl t=>match P.underlying t with | some (.slice e')=>e.fit P (.inl e')&&decide (P.cellsOf e'=e.size)&&decide (0<e.size) | _=>false
 |.nil,.inr ([],_)=>true
 |.nil,.inl t=>match P.underlying t with | some (.struct fs)=>fs.toList.isEmpty&&decide (P.cellsOf t=0) | _=>false
 |.field f r,.inr (f0::fs,off)=>decide (f0.offset=off)&&decide (P.cellsOf f0.type=f.size)&&f.fit P (.inl f0.type)&&r.fit P (.inr (fs,off+f.size))
 |.field f r,.inl t=>match P.underlying t with
  |some (.struct fs)=>match fs.toList with
   |f0::FX=>decide (P.cellsOf t=f.size+r.size)&&(decide (f0.offset=0)&&decide (P.cellsOf f0.type=f.size)&&f.fit P (.inl f0.type)&&r.fit P (.inr (FX,f.size)))
   | []=>false
  |_=>false
 |_,_=>false
theorem zx{a b:Bool}(h:(a&&b)=true):a=true∧b=true:=by simpa using h
theorem vP.spot{w:World}{a:Addr}{n:Nat}{cs:List Value}(hn:0<n)(hl:cs.length=n)(h:∀i,i<n→w.cell? (a.add i)=cs[i]?):a.spot=none:=by
 have h0:=h 0 hn
 rw[bj (by omega)]at h0
 exact World.cell?_spot h0
theorem abD{H:Type}{enc:TypeId×Value→H}{P:Program}{w:World}{base:Nat}{spare:Nat→Bool}{held:Bool}(s:Sh):
  (∀(t:TypeId) (fuel:Nat) (cs:List Value) (x:DataW H×List MemPlace),s.fit P (.inl t)=true→DataW.trod enc P w base spare held fuel t cs=some x→cs.length=s.size∧∃d,Reads w s cs d)∧
  (∀(fs:List Field) (off n:Nat) (cs:List Value),s.fit P (.inr (fs,off))=true→cs.length=off+s.size→
   (∀(i:Nat) (f:Field),fs[i]?=some f→∃x,DataW.trod enc P w base spare held n f.type ((cs.drop f.offset).take (P.cellsOf f.type))=some x)→∃d,Reads w s (cs.drop off) d):=by
 induction s with
 |int k=>
  refine⟨fun t fuel cs x hf h=>?_,fun fs off n cs hf=>by simp[Sh.fit]at hf⟩
  unfold Sh.fit at hf
  split at hf
  ·rename_i k' hk
   have:=fv hf
   subst this
   obtain⟨n,rfl,_,hw⟩:=DataW.trod_int hk h
   exact⟨rfl,n,rfl,hw⟩
  ·cases hf
 |bool=>
  refine⟨fun t fuel cs x hf h=>?_,fun fs off n cs hf=>by simp[Sh.fit]at hf⟩
  unfold Sh.fit at hf
  split at hf
  ·rename_i hk
   obtain⟨b,rfl,_⟩:=DataW.trod_bool hk h
   exact⟨rfl,b,rfl⟩
  ·cases hf
 |str=>
  refine⟨fun t fuel cs x hf h=>?_,fun fs off n cs hf=>by simp[Sh.fit]at hf⟩
  unfold Sh.fit at hf
  split at hf
  ·rename_i hk
   obtain⟨b,rfl,_,hb⟩:=DataW.trod_string hk h
   exact⟨rfl,b,rfl,hb⟩
  ·cases hf
 |slice e ih=>
  refine⟨fun t fuel cs x hf h=>?_,fun fs off n cs hf=>by simp[Sh.fit]at hf⟩
  unfold Sh.fit at hf
  split at hf
  ·rename_i e' hk
   obtain⟨iO,h0⟩:=zx hf
   obtain⟨wk,eC⟩:=zx iO
   have eC:=fv eC
   have h0:=fv h0
   rcases open_slice hk h with ⟨rfl,_⟩ | ⟨a,len,cap,m,n,D,Pl,rfl,hb,hl,hm,hmm,_,hi⟩
   ·exact⟨rfl,[],none,0,rfl,Nat.le_refl _,by simp,fun _=>rfl,fun aQ=>absurd rfl aQ⟩
   ·have hlm:len≤m:=by rw[hmm];split <;> omega
    have OK:∀i,i<len→∃(y:List Value×e.T),y.1.length=e.size∧w.cells? base (a.add (i*e.size)) e.size=some y.1∧Reads w e y.1 y.2:=by
     intro i sZ
     obtain⟨cs',h1,h2⟩:=hi i (by omega)
     obtain⟨h3,d,h4⟩:=ih.1 e' n cs' _ wk h2
     rw[eC]at h1
     exact⟨(cs',d),h3,h1,h4⟩
    obtain⟨V,hV⟩:= @choose_lt _ ⟨([],e.NW)⟩ _ _ OK
    refine⟨rfl,(List.range len).map (fun i=>(V i).2),some a,cap,by simp,by simpa using hl,hm,(fun e=>by cases e),fun aQ=>?_⟩
    have ua:0<len:=by
     rcases uD len with h | h
     ·subst h;exact absurd rfl aQ
     ·exact h
    obtain⟨b,o,spot⟩:=a
    have agT:spot=none:=by
     obtain⟨q1,q2,_⟩:=hV 0 ua
     obtain⟨_,q4,q5⟩:=World.cells?_some q2
     have:=vP.spot (a:=(⟨b,o,spot⟩:Addr).add (0*e.size)) h0 q4 q5
     unfold Addr.add at this
     split at this <;> simp_all
    subst agT
    refine⟨b,o,rfl,fun i hi=>?_⟩
    have ft:i<len:=by simpa using hi
    obtain⟨q1,q2,q3⟩:=hV i ft
    obtain⟨_,q4,q5⟩:=World.cells?_some q2
    refine⟨(V i).1,q1,fun j u hu=>?_,by simpa using q3⟩
    have hj:j<e.size:=by have:=(ck.1 hu).1;omega
    have:=q5 j hj
    rw[Addr.add_lit,Addr.add_lit]at this
    rw[this,hu]
  ·cases hf
 |nil=>
  refine⟨fun t fuel cs x hf h=>?_,fun fs off n cs hf hl _=>?_⟩
  ·unfold Sh.fit at hf
   split at hf
   ·rename_i fs hk
    obtain⟨_,hz⟩:=zx hf
    have hz:=fv hz
    obtain⟨xs,n,_,_,hlen,_⟩:=DataW.trod_struct hk h
    have:cs=[]:=iR.1 (by omega)
    exact⟨by simp[this,Sh.size],(),this⟩
   ·cases hf
  ·exact⟨(),List.drop_eq_nil_of_le (by simp[Sh.size]at hl;omega)⟩
 |field f r qP jP=>
  have key:∀(f0:Field) (fs:List Field) (off n:Nat) (cs:List Value),
    (decide (f0.offset=off)&&decide (P.cellsOf f0.type=f.size)&&f.fit P (.inl f0.type)&&r.fit P (.inr (fs,off+f.size)))=true→cs.length=off+(f.size+r.size)→
    (∀(i:Nat) (g:Field),(f0::fs)[i]?=some g→∃x,DataW.trod enc P w base spare held n g.type ((cs.drop g.offset).take (P.cellsOf g.type))=some x)→∃d,Reads w (.field f r) (cs.drop off) d:=by
   intro f0 fs off n cs hf hl hx
   obtain⟨iO,hr⟩:=zx hf
   obtain⟨wk,hff⟩:=zx iO
   obtain⟨ho,hc⟩:=zx wk
   have ho:=fv ho
   have hc:=fv hc
   obtain⟨x,BR⟩:=hx 0 f0 rfl
   obtain⟨xZ,d1,wo⟩:=qP.1 _ _ _ _ hff BR
   obtain⟨d2,nS⟩:=jP.2 fs (off+f.size) n cs hr (by omega) (fun i g hg=>hx (i+1) g (by simpa using hg))
   refine⟨(d1,d2),(cs.drop f0.offset).take (P.cellsOf f0.type),cs.drop (off+f.size),?_,xZ,wo,nS⟩
   rw[ho,hc,← FF,zZ]
  refine⟨fun t fuel cs x hf h=>?_,fun fs off n cs hf hl hx=>?_⟩
  ·unfold Sh.fit at hf
   split at hf
   ·rename_i fs hk
    split at hf
    ·rename_i f0 FX zO
     obtain⟨hz,hf'⟩:=zx hf
     have hz:=fv hz
     obtain⟨xs,n,_,_,hlen,On,hg⟩:=DataW.trod_struct hk h
     have hl:cs.length=0+(f.size+r.size):=by omega
     obtain⟨d,hd⟩:=key f0 FX 0 n cs (by simpa using hf') hl (fun i g hig=>by
      have hi:fs[i]?=some g:=by rw[← Cn,zO];exact hig
      have:=hg i g hi
      have zN:i<xs.length:=by rw[On];exact (z6.1 hi).1
      exact⟨xs[i],by rw[this];exact bj zN⟩)
     exact⟨by simpa [Sh.size]using hl,d,by simpa using hd⟩
    ·cases hf
   ·cases hf
  ·cases fs with
   |nil=>simp[Sh.fit]at hf
   |cons f0 FX=>exact key f0 FX off n cs (by simpa [Sh.fit]using hf) (by simpa [Sh.size]using hl) hx
theorem Ru{H:Type}{enc:TypeId×Value→H}{P:Program}{w:World}{base:Nat}{spare:Nat→Bool}{held:Bool}{t:TypeId}{v:Value}{d:DataW H}{p:List MemPlace}(s:Sh)(hs:s.fit P (.inl t)=true)
  (h:DataW.Trod enc P w base spare held t v d p):∃x:s.T,Reads w s v.cells.toList x:=by
 obtain⟨fuel,hf⟩:=h
 exact ((abD s).1 t fuel _ _ hs hf).2
theorem wf_u64{n:Int}(h:(Lit.int .u64 n).wf=true):0≤n∧n<18446744073709551616:=by
 have:=bounds_u64 h
 omega
inductive AV where
 |int (k:IntKind) (n:Int)
 |bool (b:Bool)
 |str (s:ByteArray)
 |ae (e:Sh) (l:List e.T)
 |kz
 |gH
 |ai
 |af (b off len e:Nat)
 |cU
 |ptr (b off:Nat)
 |fX (cs:List AV)
 |agg (cs:List AV)
 |tup (vs:List AV)
 |iface (t:TypeId) (v:AV)
 |nilif
 |fn (f:Fn) (first cap:List AV)
 |iH
 |pO
 |gr (n:Int)
 |fR (n m:Int)
 |any
 |via (v:AV)
 |nD (b:Nat)
 |oy (l:List (Int×Int))
 |nL (b:Nat)
 |sF (m c:Nat) (seen:List Nat)
 |mJ (L:Loop) (t:Nat→AV)
abbrev Hp:Type:=List (Nat×List AV)
abbrev Tm:Type:=Nat→AV
def Sh.cells:(s:Sh)→s.T→List AV
 |.int k,(n:Int)=>[.int k n]
 |.bool,(b:Bool)=>[.bool b]
 |.str,(s:ByteArray)=>[.str s]
 |.slice e,(l:List e.T)=>[.ae e l]
 |.nil,_=>[]
 |.field f r,(d:f.T×r.T)=>f.cells d.1++r.cells d.2
def AV.leaf:AV→Bool
 |.agg _ | .tup _ | .any | .oy _ | .sF _ _ _ | .mJ _ _=>false
 |_=>true
def AV.cells?:AV→Option (List AV)
 |.agg cs=>some cs
 |.tup _ | .any | .oy _ | .sF _ _ _ | .mJ _ _=>none
 |v=>some [v]
inductive TK where
 |int (k:IntKind) | bool | str | slice (e:TypeId) | ptr (e:TypeId) | bc (fs:List (Nat×TypeId)) | arr (n:Nat) (e:TypeId) | iface | func | map (k e:TypeId) | gr | fR | other
structure TI where
 k:TK
 size:Nat
 bytes:Nat
 zero:List AV
def TI.wide(i:TI):Bool:=match i.k with | .bc _ | .arr _ _=>true | _=>false
def A0:Value→AV
 |.int k n=>.int k n
 |.bool b=>.bool b
 |.string s=>.str s
 |.pointer none=>.cU
 |.slice none 0 0=>.ai
 |.nilIface=>.nilif
 |.nilFunc=>.iH
 |.map none=>.pO
 |_=>.any
def V4:Value→AV
 |.agg cs=>match (cs.toList.map A0).all AV.leaf with | true=>.agg (cs.toList.map A0) | false=>.any
 |.tuple vs=>match vs.toList with | []=>.tup [] | _=>.any
 |v=>A0 v
def ev(t:Tm):Operand→AV
 |.tmp i=>t i
 |.const v=>V4 v
 |.global _=>.any
 |.func f=>.fn (.func f) [] []
def put(t:Tm)(d:Option Tmp)(v:AV):Tm:=
 match d with
 |none=>t
 |some d=>fun i=>match Nat.beq i d with | true=>v | false=>t i
def Ec(b:Bool)(A B:Prop):Prop:=match b with | true=>A | false=>B
theorem cI{b:Bool}{A B:Prop}(h1:b=true→A)(h2:b=false→B):Ec b A B:=by cases b;exact h2 rfl;exact h1 rfl
theorem ak{p:Prop}[Decidable p]{A B:Prop}(h1:p→A)(h2:¬p→B):Ec (decide p) A B:=by
 by_cases h:p
 ·simp only[h,decide_true];exact h1 h
 ·simp only[h,decide_false];exact h2 h
theorem KV{b:Bool}{A B:Prop}(h:b=true)(h1:A):Ec b A B:=by subst h;exact h1
theorem Yw{b:Bool}{A B:Prop}(h:b=false)(h1:B):Ec b A B:=by subst h;exact h1
def strict(v:AV)(K:AV→Prop):Prop:=
 match v with
 |.int k n=>K (.int k n)
 |.bool b=>K (.bool b)
 |.str s=>K (.str s)
 |.ae e l=>K (.ae e l)
 |.kz=>K .kz
 |.gH=>K .gH
 |.ai=>K .ai
 |.af b o l e=>K (.af b o l e)
 |.cU=>K .cU
 |.ptr b o=>K (.ptr b o)
 |.fX cs=>K (.fX cs)
 |.agg cs=>K (.agg cs)
 |.tup vs=>K (.tup vs)
 |.iface t v=>K (.iface t v)
 |.nilif=>K .nilif
 |.fn f a c=>K (.fn f a c)
 |.iH=>K .iH
 |.pO=>K .pO
 |.gr n=>K (.gr n)
 |.fR n m=>K (.fR n m)
 |.any=>K .any
 |.via v=>K (.via v)
 |.nD b=>K (.nD b)
 |.oy l=>K (.oy l)
 |.nL b=>K (.nL b)
 |.sF m c s=>K (.sF m c s)
 |.mJ L t=>K (.mJ L t)
theorem yG(v:AV)(K:AV→Prop):strict v K=K v:=by cases v <;> rfl
def bP:AV→AV
 |.via v=>v
 |v=>v
structure aG(p:Prop)(X:Prop):Prop where
 fact:p
 go:X
def eg(i:TI)(cs:List AV)(off:Nat):Option AV:=
 match i.wide with
 |true=>match Nat.ble (off+i.size) cs.length with | true=>some (.agg ((cs.drop off).take i.size)) | false=>none
 |false=>cs[off]?
def fL(cs:List AV)(off:Nat):List AV→List AV
 | []=>cs
 |v::r=>fL (cs.set off v) (off+1) r
def kP(i:TI)(cs:List AV)(off:Nat)(v:AV):Option (List AV):=
 match v.cells? with
 |some vs=>match Nat.beq vs.length i.size,Nat.ble (off+i.size) cs.length with | true,true=>some (fL cs off vs) | _,_=>none
 |none=>none
inductive eU(i:TI)(σ:Hp)(b o:Nat)(K:AV→Prop):Prop where
 |mk (j:Nat) (cs:List AV) (v:AV) (h1:σ[j]?=some (b,cs)) (h2:eg i cs o=some v) (go:K v)
inductive HA(i:TI)(σ:Hp)(b o:Nat)(v:AV)(K:Hp→Prop):Prop where
 |mk (j:Nat) (cs cs':List AV) (h1:σ[j]?=some (b,cs)) (h2:kP i cs o v=some cs') (go:K (σ.set j (b,cs')))
theorem aZ{i:TI}{σ:Hp}{b o:Nat}{K:AV→Prop}(j:Nat){cs:List AV}{v:AV}(h1:σ[j]?=some (b,cs))(h2:eg i cs o=some v)(go:K v):eU i σ b o K:=.mk j cs v h1 h2 go
theorem da{i:TI}{σ:Hp}{b o:Nat}{v:AV}{K:Hp→Prop}(j:Nat){cs cs':List AV}(h1:σ[j]?=some (b,cs))(h2:kP i cs o v=some cs')(go:K (σ.set j (b,cs'))):HA i σ b o v K:=.mk j cs cs' h1 h2 go
theorem aa{i:TI}{σ:Hp}{b o:Nat}{K:AV→Prop}(j:Nat){cs:List AV}{v:AV}(go:K v)(h1:σ[j]?=some (b,cs):=by exact rfl)(h2:eg i cs o=some v:=by exact rfl):eU i σ b o K:=.mk j cs v h1 h2 go
theorem aj{i:TI}{σ:Hp}{b o:Nat}{v:AV}{K:Hp→Prop}(j:Nat){cs cs':List AV}(go:K (σ.set j (b,cs')))(h1:σ[j]?=some (b,cs):=by exact rfl)(h2:kP i cs o v=some cs':=by exact rfl):HA i σ b o v K:=.mk j cs cs' h1 h2 go
theorem aY{p q r s X:Prop}(go:X)(h1:p:=by omega)(h2:q:=by omega)(h3:r:=by omega)(h4:s:=by decide):aG (p∧q∧r∧s) X:=.mk ⟨h1,h2,h3,h4⟩ go
theorem aK{p q r X:Prop}(go:X)(h1:p:=by exact rfl)(h2:q:=by omega)(h3:r:=by omega):aG (p∧q∧r) X:=.mk ⟨h1,h2,h3⟩ go
theorem fV{p X:Prop}(go:X)(h1:p:=by omega):aG p X:=.mk h1 go
inductive bM{α:Type}(l:List α)(n:Int)(K:α→Prop):Prop where
 |mk (x:α) (h0:0≤n) (h1:l[n.toNat]?=some x) (go:K x)
def sA(Va:List (Nat×Nat))(cs:List AV):List (Nat×AV)→Option (List AV)
 | []=>some cs
 |(i,v)::r=>match Va[i]?,v.cells? with
  |some (off,size),some vs=>match Nat.beq vs.length size,Nat.ble (off+size) cs.length with | true,true=>sA Va (fL cs off vs) r | _,_=>none
  |_,_=>none
def cJ(z:List AV):Nat→List AV
 | 0=>[]
 |n+1=>z++cJ z n
section
variable (P:Program) (TT:TypeId→Option TI)
def Dp:List (Nat×TypeId)→Option (List (Nat×Nat))
 | []=>some []
 |(off,t)::r=>match TT t,Dp r with | some i,some ps=>some ((off,i.size)::ps) | _,_=>none
def HS(t:TypeId)(parts:List (Nat×AV)):Option AV:=
 match TT t with
 |some ⟨.bc fs,_,_,z⟩=>match Dp TT fs with | some ps=>(sA ps z parts).map .agg | none=>none
 |some ⟨.arr n e,_,_,z⟩=>match TT e with | some i=>(sA ((List.range n).map fun j=>(j*i.size,i.size)) z parts).map .agg | none=>none
 |_=>none
def qw(i:TI)(a:AV)(σ:Hp)(K:AV→Prop):Prop:=
 match a with
 |.fX cs=>match eg i cs 0 with | some v=>K v | none=>False
 |.ptr b o=>eU i σ b o K
 |_=>False
def oK(b:Bool)(K:AV→Prop):Prop:=Ec b (K (.bool true)) (K (.bool false))
def Bb(k:TK)(want:Bool)(x y:AV)(K:AV→Prop):Prop:=
 match k,x,y with
 |.ptr _,.cU,.cU=>K (.bool want)
 |.ptr _,.ptr _ _,.cU=>K (.bool !want)
 |.ptr _,.fX _,.cU=>K (.bool !want)
 |.slice _,.ai,.ai=>K (.bool want)
 |.slice _,.af _ _ _ _,.ai=>K (.bool !want)
 |.slice _,.gH,.ai=>K (.bool !want)
 |.slice _,.ae _ l,.ai=>aG (0<l.length) (K (.bool !want))
 |.iface,.nilif,.nilif=>K (.bool want)
 |.iface,.iface _ _,.nilif=>K (.bool !want)
 |.func,.iH,.iH=>K (.bool want)
 |.func,.fn _ _ _,.iH=>K (.bool !want)
 |_,_,_=>False
def Uf:Operand→Bool
 |.const _=>true
 |_=>false
def IB(op:BinOp)(k:IntKind)(a b:Int)(K:AV→Prop):Prop:=
 match op with
 |.add=>K (.int k (k.wrap (a+b)))
 |.sub=>K (.int k (k.wrap (a-b)))
 |.mul=>K (.int k (k.wrap (a*b)))
 |.quo=>aG (b≠0) (K (.int k (k.wrap (a.tdiv b))))
 |.rem=>aG (b≠0) (K (.int k (a.tmod b)))
 |.and | .or | .xor | .andNot=>K (.int k (bits op k a b))
 |.eql=>oK (decide (a=b)) K
 |.neq=>oK (!decide (a=b)) K
 |.lss=>oK (decide (a<b)) K
 |.leq=>oK (decide (a≤b)) K
 |.gtr=>oK (decide (b<a)) K
 |.geq=>oK (decide (b≤a)) K
 |_=>False
def HD(op:BinOp)(k:IntKind)(a b:Int)(K:AV→Prop):Prop:=
 match op with
 |.shl=>aG (0≤b) (K (.int k (k.wrap (a*2 ^ (min b.toNat k.bits)))))
 |.shr=>aG (0≤b) (K (.int k (a.fdiv (2 ^ (min b.toNat k.bits)))))
 |_=>False
def EG(op:BinOp)(t:TypeId)(y0:Operand)(x y:AV)(K:AV→Prop):Prop:=
 match x,y with
 |.int k a,.int k' b=>match op with
  |.shl | .shr=>HD op k a b K
  |_=>match decide (k=k') with | true=>IB op k a b K | false=>False
 |.bool a,.bool b=>match TT t with
  |some ⟨.bool,_,_,_⟩=>(match op with | .eql=>oK (a == b) K | .neq=>oK (!(a == b)) K | _=>False)
  |_=>False
 |.str a,.str b=>match op with | .eql=>oK (a.toList == b.toList) K | .neq=>oK (!(a.toList == b.toList)) K | _=>False
 |x,y=>match Uf y0,TT t with
  |true,some i=>(match op with | .eql=>Bb i.k true x y K | .neq=>Bb i.k false x y K | _=>False)
  |_,_=>False
def afR:AV→AV→Bool
 |.int _ a,.int _ b=>decide (a=b)
 |.bool a,.bool b=>a == b
 |.str a,.str b=>a.toList == b.toList
 |_,_=>false
def sB(xs ys:List AV):List Bool:=List.zipWith afR xs ys
def fD(l:List Bool):Bool:=l.all id
def IL(TT:TypeId→Option TI)(rec:TypeId→AV→AV→Option (List Bool))(xs ys:List AV):List Field→Option (List Bool)
 | []=>some []
 | f :: fs => match f.name == "_", TT f.type with
  |false,some i=>match eg i xs f.offset,eg i ys f.offset with
   |some a,some b=>match rec f.type a b,IL TT rec xs ys fs with | some l,some l'=>some (l++l') | _,_=>none
   |_,_=>none
  |_,_=>none
def IK(TT:TypeId→Option TI)(rec:TypeId→AV→AV→Option (List Bool))(e:TypeId)(c:Nat)(xs ys:List AV):List Nat→Option (List Bool)
 | []=>some []
 |k::ks=>match TT e with
  |some i=>match eg i xs (k*c),eg i ys (k*c) with
   |some a,some b=>match rec e a b,IK TT rec e c xs ys ks with | some l,some l'=>some (l++l') | _,_=>none
   |_,_=>none
  |none=>none
def z7(P:Program)(TT:TypeId→Option TI):Nat→TypeId→AV→AV→Option (List Bool)
 | 0,_,_,_=>none
 |d+1,t,x,y=>match P.underlying t,x,y with
  |some .bool,.bool a,.bool b=>some [a == b]
  |some (.int _),.int k a,.int k' b=>(match decide (k=k') with | true=>some [decide (a=b)] | false=>none)
  |some .string,.str a,.str b=>some [a.toList == b.toList]
  |some (.struct fs),.agg xs,.agg ys=>(match P.stoodInHeld t with | true=>none | false=>IL TT (z7 P TT d) xs ys fs.toList)
  |some (.array n e),.agg xs,.agg ys=>(match TT e with | some _=>IK TT (z7 P TT d) e (P.cellsOf e) xs ys (List.range n) | none=>none)
  |_,_,_=>none
inductive EqAt(P:Program)(TT:TypeId→Option TI)(t:TypeId)(xs ys:List AV)(K:Bool→Prop):Prop where
 |mk (h1:P.eqGuardType P.depth t=false) (h2:z7 P TT 8 t (.agg xs) (.agg ys)=some (sB xs ys)) (go:K (fD (sB xs ys))):EqAt P TT t xs ys K
def hG(n:Int):Prop:=n.natAbs<9007199254740992
def NX(op:BinOp)(a b c d:Int)(K:AV→Prop):Prop:=
 match op with
 |.add=>aG (hG (a+c)∧hG (b+d)) (K (.fR (a+c) (b+d)))
 |.sub=>aG (hG (a-c)∧hG (b-d)) (K (.fR (a-c) (b-d)))
 |.mul=>aG ((hG (a*c)∧hG (b*d)∧hG (a*c-b*d))∧hG (a*d)∧hG (b*c)∧hG (a*d+b*c)) (K (.fR (a*c-b*d) (a*d+b*c)))
 |_=>False
def D9(x y:AV)(K:AV→Prop):Prop:=match x,y with | .gr a,.gr b=>K (.fR a b) | _,_=>False
def DT(x:AV)(K:AV→Prop):Prop:=match x with | .fR a _=>K (.gr a) | _=>False
def DZ(x:AV)(K:AV→Prop):Prop:=match x with | .fR _ b=>K (.gr b) | _=>False
def EH(P:Program)(TT:TypeId→Option TI)(op:BinOp)(t:TypeId)(y0:Operand)(x y:AV)(K:AV→Prop):Prop:=
 match x,y with
 |.agg xs,.agg ys=>match op with
  |.eql=>EqAt P TT t xs ys fun b=>oK b K
  |.neq=>EqAt P TT t xs ys fun b=>oK (!b) K
  |_=>False
 |.fR a b,.fR c d=>NX op a b c d K
 |x,y=>EG TT op t y0 x y K
def EO(op:UnOp)(x:AV)(K:AV→Prop):Prop:=
 match op,x with
 |.not,.bool b=>K (.bool !b)
 |.neg,.int k n=>K (.int k (k.wrap (0-n)))
 |.xor,.int k n=>K (.int k (bits .xor k (if k.signed then -1 else k.max) n))
 |.neg,.gr n=>K (.gr (-n))
 |_,_=>False
def Ea(s d:TypeId)(x:AV)(K:AV→Prop):Prop:=
 match TT s,TT d,x with
 |some _,some ⟨.int k,_,_,_⟩,.int _ n=>K (.int k (k.wrap n))
 |some _,some ⟨.gr,_,_,_⟩,.int _ n=>aG (hG n) (K (.gr n))
 |some _,some ⟨.int k,_,_,_⟩,.gr n=>aG (k.min≤n∧n≤k.max) (K (.int k n))
 |_,_,_=>False
def tP:Option AV→Option Int
 |none=>some 0
 |some (.int _ n)=>some n
 |_=>none
def Bg(len:Nat):Option AV→Option Int
 |none=>some len
 |some (.int _ n)=>some n
 |_=>none
def AY(t:TypeId)(x:AV)(lo hi mx:Option AV)(K:AV→Prop):Prop:=
 match TT t,mx with
 |some ⟨.slice e,_,_,_⟩,none=>match TT e,x with
  |some i,.af b off len es=>match tP lo,Bg len hi with
   |some l,some h=>aG (0≤l∧l≤h∧h≤len∧i.size=es) (K (.af b (off+l.toNat*es) (h.toNat-l.toNat) es))
   |_,_=>False
  |some i,.ae s xs=>match tP lo,Bg xs.length hi with
   |some l,some h=>aG (0≤l∧l≤h∧h≤xs.length∧i.size=s.size) (K (.ae s ((xs.drop l.toNat).take (h.toNat-l.toNat))))
   |_,_=>False
  |some _,.ai=>match tP lo,Bg 0 hi with
   |some l,some h=>aG (0≤l∧l≤h∧h≤(0:Nat)) (K .ai)
   |_,_=>False
  |_,_=>False
 |some ⟨.slice e,_,_,_⟩,some (.int _ m)=>match TT e,x,hi with
  |some i,.af b off len es,some (.int _ h)=>match tP lo with
   |some l=>aG (0≤l∧l≤h∧h≤m∧m≤len∧i.size=es) (K (.af b (off+l.toNat*es) (h.toNat-l.toNat) es))
   |_=>False
  |_,_,_=>False
 |_,_=>False
def CH(t:TypeId)(x ix:AV)(K:AV→Prop):Prop:=
 match TT t,ix with
 |some ⟨.slice e,_,_,_⟩,.int _ n=>match TT e,x with
  |some i,.ae s l=>aG (i.size=s.size) (bM l n fun d=>K (.fX (s.cells d)))
  |some i,.af b off len es=>aG (i.size=es∧0≤n∧n<len) (K (.ptr b (off+n.toNat*es)))
  |_,_=>False
 |some ⟨.arr m e,_,_,_⟩,.int _ n=>match TT e,x with
  |some i,.ptr b o=>aG (0≤n∧n<m) (K (.ptr b (o+n.toNat*i.size)))
  |some i,.fX cs=>aG (0≤n∧n<m) (K (.fX (cs.drop (n.toNat*i.size))))
  |_,_=>False
 |_,_=>False
def getM:List (Int×Int)→Int→Option Int
 | [],_=>none
 |p::l,n=>if p.1=n then some p.2 else getM l n
def rP:List (Int×Int)→Int→Int→List (Int×Int)
 | [],n,x=>[(n,x)]
 |p::l,n,x=>if p.1=n then (n,x)::l else p::rP l n x
inductive Is(σ:Hp)(m:AV)(K:Nat→Nat→List (Int×Int)→Prop):Prop where
 |mk (j b:Nat) (l:List (Int×Int)) (hm:m=.nD b) (h1:σ[j]?=some (b,[.oy l])) (go:K j b l):Is σ m K
def Bw(t:TypeId):Option Int:=match TT t with
 |some ⟨.map k e,_,_,_⟩=>(match TT k,TT e with | some ⟨.int .i64,_,_,_⟩,some ⟨.int .i64,_,_,[.int .i64 z]⟩=>some z | _,_=>none)
 |_=>none
def Du(t:TypeId)(m k:AV)(c:Bool)(σ:Hp)(K:AV→Prop):Prop:=
 match Bw TT t,k with
 |some z,.int .i64 n=>Is σ m fun _ _ l=>(match c with | true=>K (.tup [.int .i64 ((getM l n).getD z),.bool (getM l n).isSome]) | false=>K (.int .i64 ((getM l n).getD z)))
 |_,_=>False
def CK(s:TypeId)(x:AV)(f:Nat)(K:AV→Prop):Prop:=
 match TT s with
 |some ⟨.bc fs,_,_,_⟩=>match fs[f]? with
  |some (off,t)=>match TT t with
   |some i=>match Nat.blt 0 i.size,x with
    |true,.ptr b o=>K (.ptr b (o+off))
    |true,.fX cs=>K (.fX (cs.drop off))
    |_,_=>False
   |none=>False
  |none=>False
 |_=>False
def DM(s:TypeId)(x:AV)(f:Nat)(K:AV→Prop):Prop:=
 match TT s,x with
 |some ⟨.bc fs,_,_,_⟩,.agg cs=>match fs[f]? with
  |some (off,t)=>match TT t with | some i=>(match eg i cs off with | some v=>K v | none=>False) | none=>False
  |none=>False
 |_,_=>False
def Es(k:TK)(x:AV)(K:AV→Prop):Prop:=
 match k,x with
 |.slice _,.ae _ l=>K (.int .i64 l.length)
 |.slice _,.af _ _ len _=>K (.int .i64 len)
 |.slice _,.ai=>K (.int .i64 0)
 |.slice _,.kz=>K (.int .i64 0)
 |.slice _,.gH=>K (.int .i64 0)
 |_,_=>False
def EF(k:TK)(x:AV)(K:AV→Prop):Prop:=
 match k,x with
 |.slice _,.ai=>K (.int .i64 0)
 |.slice _,.kz=>K (.int .i64 0)
 |_,_=>False
def En(xs:List AV)(K:AV→Prop):Prop:=
 match xs with
 | [.int k a,.int k' b]=>match decide (k=k') with | true=>K (.int k (if b<a then b else a)) | false=>False
 |_=>False
def Eo(xs:List AV)(K:AV→Prop):Prop:=
 match xs with
 | [.int k a,.int k' b]=>match decide (k=k') with | true=>K (.int k (if a<b then b else a)) | false=>False
 |_=>False
def AheadOk(t:TypeId)(m:String):Prop:=∀(a:Addr) (w:World),(nilAhead (P.types.size+Made.depth) t (.pointer (some a)) m).run P w=.ok (some false) w
inductive ff(t:TypeId)(m:String)(X:Prop):Prop where
 |mk (h:AheadOk P t m) (go:X):ff t m X
def fH(op:Op)(ρ:Operand→AV)(σ:Hp)(K:AV→Prop):Prop:=
 match op with
 |.move x | .assign x=>strict (ρ x) K
 |.pick c a b=>match ρ c with | .bool x=>(match x with | true=>strict (ρ a) K | false=>strict (ρ b) K) | _=>False
 |.build t parts=>match HS TT t (parts.toList.map fun p=>(p.1,ρ p.2)) with | some v=>K v | none=>False
 |.load t a=>match TT t with | some i=>qw i (ρ a) σ K | none=>False
 |.nilCheck x=>match ρ x with | .ptr b o=>K (.ptr b o) | .fX cs=>K (.fX cs) | .fn (.func f) a c=>K (.fn (.func f) a c) | .fn (.method m) [.iface t (.ptr b o)] c=>ff P t m (K (.fn (.method m) [.iface t (.ptr b o)] c)) | .iface t v=>K (.iface t v) | _=>False
 |.binOp op t x y _=>EH P TT op t y (bP (ρ x)) (bP (ρ y)) K
 |.unOp op _ x=>EO op (ρ x) K
 |.convert s d x=>Ea TT s d (ρ x) K
 |.makeInterface t x=>match TT t with | some ⟨.iface,_,_,_⟩=>False | some _=>K (.iface t (ρ x)) | none=>False
 |.makeFunc f first cap=>K (.fn f (first.toList.map ρ) (cap.toList.map ρ))
 |.slice t x lo hi mx=>AY TT t (bP (ρ x)) (lo.map fun x=>bP (ρ x)) (hi.map fun x=>bP (ρ x)) (mx.map fun x=>bP (ρ x)) K
 |.fieldAddr s x f=>CK TT s (ρ x) f K
 |.field s x f=>DM TT s (ρ x) f K
 |.indexAddr t x ix=>CH TT t (bP (ρ x)) (bP (ρ ix)) K
 |.typeAssert x _ t ok=>match ok,TT t,ρ x with
  |true,some ⟨.ptr _,_,_,[.cU]⟩,.iface t' v=>(match Nat.beq t' t with | true=>K (.tup [v,.bool true]) | false=>K (.tup [.cU,.bool false]))
  |true,some ⟨.ptr _,_,_,[.cU]⟩,.nilif=>K (.tup [.cU,.bool false])
  |_,_,_=>False
 |.lookup t m k c=>Du TT t (bP (ρ m)) (bP (ρ k)) c σ K
 |.extract x i=>match ρ x with | .tup vs=>(match vs[i]? with | some v=>K v | none=>False) | _=>False
 |.call ⟨.builtin .len,args,cy⟩=>match args.toList,cy.toList with | [x],[t]=>(match TT t with | some i=>Es i.k (bP (ρ x)) K | none=>False) | _,_=>False
 |.call ⟨.builtin .min,args,_⟩=>match args.toList with | [x,y]=>En [ρ x,ρ y] K | _=>False
 |.call ⟨.builtin .max,args,_⟩=>match args.toList with | [x,y]=>Eo [ρ x,ρ y] K | _=>False
 |.call ⟨.builtin .complex,args,_⟩=>match args.toList with | [x,y]=>D9 (ρ x) (ρ y) K | _=>False
 |.call ⟨.builtin .real,args,_⟩=>match args.toList with | [x]=>DT (ρ x) K | _=>False
 |.call ⟨.builtin .imag,args,_⟩=>match args.toList with | [x]=>DZ (ρ x) K | _=>False
 |.call ⟨.builtin .cap,args,cy⟩=>match args.toList,cy.toList with | [x],[t]=>(match TT t with | some i=>EF i.k (bP (ρ x)) K | none=>False) | _,_=>False
 |_=>False
end
end Go.Proofs.YtnikdflhefijbaaGreat
namespace Go.Proofs.YtnikdflhefijbaaGreat
open Ieee
def ot(d:Datum)(N:Int):Prop:=∃s m p,d=.number s m p∧m*2 ^ p.toNat=N.natAbs*2 ^ (-p).toNat∧(N≠0→s=decide (N<0))
theorem AH(m k:Nat):m <<< k=m*2 ^ k:=Nat.shiftLeft_eq m k
theorem YO(s:Bool)(m u:Nat):(signed s m u).natAbs=m*2 ^ u:=by
 unfold signed
 rw[AH]
 split
 ·rw[Int.natAbs_neg,J1]
 ·rw[J1]
theorem K7{m A:Nat}{p base:Int}(h:m*2 ^ p.toNat=A*2 ^ (-p).toNat)(hb:base≤p):m*2 ^ (p-base).toNat*2 ^ base.toNat=A*2 ^ (-base).toNat:=by
 rcases Fy base 0 with h0 | h0
 ·rcases Fy p 0 with h1 | h1
  ·have e1:p.toNat=0:=by omega
   have e2:base.toNat=0:=by omega
   rw[e1,s8,er]at h
   rw[e2,s8,er,h,B9,← sf]
   congr 2;omega
  ·have e1:(-p).toNat=0:=by omega
   have e2:base.toNat=0:=by omega
   have e3:(p-base).toNat=p.toNat+(-base).toNat:=by omega
   rw[e1,s8,er]at h
   rw[e2,s8,er,e3,sf,← B9,h]
 ·have e1:(-p).toNat=0:=by omega
  have e2:(-base).toNat=0:=by omega
  rw[e1,s8,er]at h
  rw[e2,s8,er,B9,← sf,← h]
  congr 2;omega
theorem KK{s:Bool}{m u:Nat}{N:Int}{A B:Nat}(h:m*2 ^ u*A=N.natAbs*B)(hs:N≠0→s=decide (N<0))(hA:0<A):signed s m u*(A:Int)=N*(B:Int):=by
 have h':((m*2 ^ u:Nat):Int)*(A:Int)=(N.natAbs:Int)*(B:Int):=by exact_mod_cast h
 by_cases h0:N=0
 ·subst h0
  have hm:m*2 ^ u=0:=by
   have:m*2 ^ u*A=0:=by rw[h];simp
   rcases Nat.mul_eq_zero.1 this with h1 | h1
   ·exact h1
   ·omega
  have:signed s m u=0:=Int.natAbs_eq_zero.1 (by rw[YO,hm])
  rw[this];simp
 ·have hs:=hs h0
  subst hs
  unfold signed
  rw[AH]
  by_cases hn:N<0
  ·rw[aL hn,ah rfl,Int.neg_mul,h',← Int.neg_mul]
   congr 1;omega
  ·rw[bH hn,ag (by decide),h']
   congr 1;omega
theorem qi(k:Nat):0<2 ^ k:=Cc k
theorem RK{d e:Datum}{N M:Int}(hd:ot d N)(he:ot e M):∃x,d.sum e=some x∧ot x (N+M):=by
 obtain⟨s,m,i,rfl,h1,h2⟩:=hd
 obtain⟨t,n,j,rfl,h3,h4⟩:=he
 refine⟨_,rfl,_,_,_,rfl,?_,?_⟩
 all_goals
  have e1:=KK (K7 h1 (Int.min_le_left i j)) h2 (qi _)
  have e2:=KK (K7 h3 (Int.min_le_right i j)) h4 (qi _)
  have e3:(signed s m (i-min i j).toNat+signed t n (j-min i j).toNat)*((2 ^ (min i j).toNat:Nat):Int)=(N+M)*((2 ^ (-(min i j)).toNat:Nat):Int):=by rw[Int.add_mul,e1,e2,Int.add_mul]
 ·have:=congrArg Int.natAbs e3
  rw[JN,JN,J1,J1]at this
  exact this
 ·intro aQ
  generalize signed s m (i-min i j).toNat+signed t n (j-min i j).toNat=T at e3
  have hp:=qi (min i j).toNat
  have hq:=qi (-(min i j)).toNat
  generalize (2:Nat) ^ (min i j).toNat=P at e3 hp
  generalize (2:Nat) ^ (-(min i j)).toNat=Q at e3 hq
  have hT:T≠0:=by
   intro h0
   rw[h0,Int.zero_mul]at e3
   rcases Int.mul_eq_zero.1 e3.symm with h5 | h5
   ·exact aQ h5
   ·omega
  rw[ag hT]
  refine decide_eq_decide.2 ⟨fun h=>?_,fun h=>?_⟩
  ·have:T*(P:Int)<0:=Pr h (by omega)
   rw[e3]at this
   rcases Fy (N+M) 0 with h5 | h5
   ·exact h5
   ·have:=FD h5 (show (0:Int)≤Q by omega)
    omega
  ·have:(N+M)*(Q:Int)<0:=Pr h (by omega)
   rw[← e3]at this
   rcases Fy T 0 with h5 | h5
   ·exact h5
   ·have:=FD h5 (show (0:Int)≤P by omega)
    omega
theorem RL{d:Datum}{N:Int}(h:ot d N):ot d.opposite (-N):=by
 obtain⟨s,m,p,rfl,h1,h2⟩:=h
 refine⟨_,_,_,rfl,by rw[Int.natAbs_neg];exact h1,fun aQ=>?_⟩
 rw[h2 (by omega)]
 by_cases hn:N<0
 ·rw[aL hn,bH (by omega)];rfl
 ·rw[bH hn,aL (by omega)];rfl
theorem Y6{d e:Datum}{N M:Int}(hd:ot d N)(he:ot e M):∃x,d.product e=some x∧ot x (N*M):=by
 obtain⟨s,m,i,rfl,h1,h2⟩:=hd
 obtain⟨t,n,j,rfl,h3,h4⟩:=he
 refine⟨_,rfl,_,_,_,rfl,?_,fun aQ=>?_⟩
 ·rw[JN]
  have h5:(m*2 ^ i.toNat)*(n*2 ^ j.toNat)=(N.natAbs*2 ^ (-i).toNat)*(M.natAbs*2 ^ (-j).toNat):=by rw[h1,h3]
  obtain⟨c,lr,lX⟩:∃c,i.toNat+j.toNat=(i+j).toNat+c∧(-i).toNat+(-j).toNat=(-(i+j)).toNat+c:=⟨i.toNat+j.toNat-(i+j).toNat,by omega,by omega⟩
  have e1:(m*2 ^ i.toNat)*(n*2 ^ j.toNat)=(m*n*2 ^ (i+j).toNat)*2 ^ c:=by
   rw[B9 (m*n),← sf,← lr,sf];ac_rfl
  have e2:(N.natAbs*2 ^ (-i).toNat)*(M.natAbs*2 ^ (-j).toNat)=(N.natAbs*M.natAbs*2 ^ (-(i+j)).toNat)*2 ^ c:=by
   rw[B9 (N.natAbs*M.natAbs),← sf,← lX,sf];ac_rfl
  rw[e1,e2]at h5
  exact Nat.eq_of_mul_eq_mul_right (qi c) h5
 ·have hN:N≠0:=fun h=>aQ (by rw[h,Int.zero_mul])
  have hM:M≠0:=fun h=>aQ (by rw[h,Int.mul_zero])
  rw[h2 hN,h4 hM]
  rcases Int.lt_or_gt_of_ne hN with a | a <;> rcases Int.lt_or_gt_of_ne hM with b | b
  ·have:=Int.mul_pos_of_neg_of_neg a b
   rw[aL a,aL b,bH (by omega)];rfl
  ·have:=Pr a b
   rw[aL a,bH (by omega),aL this];rfl
  ·have:=Int.mul_neg_of_pos_of_neg a b
   rw[bH (by omega),aL b,aL this];rfl
  ·have:=Int.mul_pos a b
   rw[bH (by omega),bH (by omega),bH (by omega)];rfl
theorem KA{A k:Nat}(h:A≠0):(A*2 ^ k).log2=A.log2+k:=by
 have aQ:A*2 ^ k≠0:=Nat.mul_ne_zero h (J6.1 (qi k))
 refine (FJ aQ).2 ⟨?_,?_⟩
 ·rw[sf];exact kg _ ((FJ h).1 rfl).1
 ·rw[show A.log2+k+1=A.log2+1+k by omega,sf]
  exact Nat.mul_lt_mul_of_pos_right ((FJ h).1 rfl).2 (qi k)
theorem Lo(gT:Toward)(neg:Bool){A k:Nat}(h:A≠0):gT.cut neg (A*2 ^ k) k=A:=by
 have iJ:min k ((A*2 ^ k).log2+2)=k:=by rw[KA h];omega
 unfold Toward.cut
 dsimp only
 rw[iJ,AH,Nat.one_mul,Nat.mul_div_cancel _ (qi k),Nat.mul_mod_left]
 cases gT
 ·have h1:¬2 ^ k<2*0:=by simp
  have h2:((2 ^ k:Nat) == 2*0)=false:=by
   have:=qi k
   simp
  simp[h2]
 ·cases neg <;> rfl
 ·cases neg <;> rfl
 ·rfl
theorem acF(gT:Toward)(neg:Bool)(k:Nat):gT.cut neg 0 k=0:=by
 unfold Toward.cut
 dsimp only
 have iJ:1 <<< min k ((0:Nat).log2+2)≠0:=by rw[AH,Nat.one_mul];exact J6.1 (qi _)
 generalize (1:Nat) <<< min k ((0:Nat).log2+2)=g at iJ
 rw[Nat.zero_div,Nat.zero_mod]
 cases gT
 ·have h2:(g == 2*0)=false:=by simpa using iJ
  simp[h2]
 ·cases neg <;> rfl
 ·cases neg <;> rfl
 ·rfl
theorem Yj{d:Datum}{N:Int}(h:ot d N):d.toInt .zero=some N:=by
 obtain⟨s,m,p,rfl,h1,h2⟩:=h
 have e:Toward.zero.cut s (m <<< p.toNat) (-p).toNat=N.natAbs:=by
  rw[AH,h1]
  by_cases h0:N=0
  ·subst h0;rw[JQ,yd];exact acF _ _ _
  ·exact Lo _ _ (by omega)
 show some (signed s (Toward.zero.cut s (m <<< p.toNat) (-p).toNat) 0)=some N
 rw[e]
 congr 1
 have:=KK (s:=s) (m:=N.natAbs) (u:=0) (N:=N) (A:=1) (B:=1) (by simp) h2 (by decide)
 simpa using this
theorem ZF(s:Bool){rung:Nat}(h:rung<2 ^ 63):(double.word s rung / double.signWeight % 2 == 1)=s∧double.word s rung % double.signWeight=rung:=by
 have hw:double.signWeight=9223372036854775808:=by decide
 have h':rung<9223372036854775808:=h
 unfold Format.word
 rw[hw]
 cases s
 ·rw[ag (by decide)]
  refine⟨?_,by omega⟩
  rw[show rung / 9223372036854775808=0 by omega];rfl
 ·rw[ah rfl]
  refine⟨?_,by omega⟩
  rw[show (9223372036854775808+rung) / 9223372036854775808=1 by omega];rfl
theorem Rv(s:Bool):double.read (double.word s 0)=.number s 0 (-1074):=by
 cases s <;> decide
theorem X7(s:Bool){L kept:Nat}(hL:L≤52)(h1:4503599627370496≤kept)(h2:kept<9007199254740992):double.read (double.word s ((L+1022)*4503599627370496+kept))=.number s kept ((L:Int)-52):=by
 have hb:double.binade=4503599627370496:=by decide
 have hi:double.infRung=9218868437227405312:=by decide
 have hl:double.leastPlace = -1074:=by decide
 obtain⟨e1,e2⟩:=ZF s (rung:=(L+1022)*4503599627370496+kept) (by show _<9223372036854775808;omega)
 unfold Format.read
 dsimp only
 rw[e1,e2,hb,hi,hl,ag (by omega),ah (by omega)]
 congr 1
 ·omega
 ·have:((L+1022)*4503599627370496+kept) / 4503599627370496=L+1023:=by omega
  rw[this];omega
theorem Yi{d:Datum}{N:Int}(h:ot d N)(hN:N.natAbs<9007199254740992):ot (double.read (double.write d)) N:=by
 obtain⟨s,m,p,rfl,h1,h2⟩:=h
 have hb:double.binade=4503599627370496:=by decide
 have hi:double.infRung=9218868437227405312:=by decide
 have hl:double.leastPlace = -1074:=by decide
 show ot (double.read (double.nearest s m p)) N
 by_cases h0:N=0
 ·subst h0
  have hm:m=0:=by
   rw[JQ,yd]at h1
   rcases Nat.mul_eq_zero.1 h1 with h | h
   ·exact h
   ·exact absurd h (J6.1 (qi _))
  subst hm
  have:double.nearest s 0 p=double.word s 0:=rfl
  rw[this,Rv]
  exact⟨s,0,-1074,rfl,by rw[yd,JQ,yd],fun h=>absurd rfl h⟩
 ·obtain⟨A,hA⟩:∃A,A=N.natAbs:=⟨_,rfl⟩
  rw[← hA]at h1 hN
  have qX:A≠0:=by omega
  have Jt:m≠0:=by
   intro h
   subst h
   rw[yd]at h1
   rcases Nat.mul_eq_zero.1 h1.symm with h | h
   ·exact qX h
   ·exact absurd h (J6.1 (qi _))
  have ai4:(p:Int)+m.log2=A.log2:=by
   have e:=congrArg Nat.log2 h1
   rw[KA Jt,KA qX]at e
   omega
  obtain⟨L,hL⟩:∃L,L=A.log2:=⟨_,rfl⟩
  rw[← hL]at ai4
  have Fx:=((FJ qX).1 hL.symm).1
  have Pc:=((FJ qX).1 hL.symm).2
  have aie:L≤52:=by
   refine Nat.le_of_not_lt fun h=>?_
   have:2 ^ 53≤2 ^ L:=uE (by decide) h
   have:(2:Nat) ^ 53=9007199254740992:=by decide
   omega
  obtain⟨K,hK⟩:∃K,K=A*2 ^ (52-L):=⟨_,rfl⟩
  have hK1:4503599627370496≤K:=by
   have:2 ^ L*2 ^ (52-L)≤K:=by rw[hK];exact kg _ Fx
   rw[← sf,show L+(52-L)=52 by omega]at this
   exact this
  have hK2:K<9007199254740992:=by
   have:K<2 ^ (L+1)*2 ^ (52-L):=by rw[hK];exact Nat.mul_lt_mul_of_pos_right Pc (qi _)
   rw[← sf,show L+1+(52-L)=53 by omega]at this
   exact this
  have hK0:K≠0:=by omega
  have Nj:max (p+(m.log2:Int)-52) (-1074)=(L:Int)-52:=by omega
  have kx:Toward.even.cut s (m <<< (p-((L:Int)-52)).toNat) (((L:Int)-52)-p).toNat=K:=by
   rw[AH]
   rcases Fy p ((L:Int)-52) with h | h
   ·have e1:(p-((L:Int)-52)).toNat=0:=by omega
    have e2:p.toNat=0:=by omega
    rw[e2,s8,er]at h1
    rw[e1,s8,er,h1]
    have e3:(-p).toNat=(52-L)+(((L:Int)-52)-p).toNat:=by omega
    rw[e3,sf,← B9,← hK]
    exact Lo _ _ hK0
   ·have e1:(((L:Int)-52)-p).toNat=0:=by omega
    have e2:=K7 h1 h
    rw[show ((L:Int)-52).toNat=0 by omega,s8,er,show (-((L:Int)-52)).toNat=52-L by omega,← hK]at e2
    rw[e1,e2]
    have:=Lo .even s (A:=K) (k:=0) hK0
    rw[s8,er]at this
    exact this
  have hn:double.nearest s m p=double.word s ((L+1022)*4503599627370496+K):=by
   unfold Format.nearest
   rw[ag Jt]
   dsimp only
   rw[hl,hb,hi]
   show double.word s (min ((max (p+(m.log2:Int)-52) (-1074) - -1074).toNat*4503599627370496+Toward.even.cut s (m <<< (p-max (p+(m.log2:Int)-52) (-1074)).toNat) (max (p+(m.log2:Int)-52) (-1074)-p).toNat) 9218868437227405312)=_
   rw[Nj,kx,show ((L:Int)-52 - -1074).toNat=L+1022 by omega]
   have iJ:(L+1022)*4503599627370496+K≤9218868437227405312:=by omega
   exact congrArg (double.word s) (J5 iJ)
  have e:double.read (double.nearest s m p)=.number s K ((L:Int)-52):=(congrArg double.read hn).trans (X7 s aie hK1 hK2)
  rw[e]
  refine⟨s,K,(L:Int)-52,rfl,?_,h2⟩
  rw[← hA,show ((L:Int)-52).toNat=0 by omega,s8,er,show (-((L:Int)-52)).toNat=52-L by omega]
  exact hK
structure jm(b:Nat)(N:Int):Prop where
 lt:b<2 ^ 64
 isInt:ot (double.read b) N
theorem aai(N:Int):ot (.number (decide (N<0)) N.natAbs 0) N:=⟨_,_,_,rfl,by simp,fun _=>rfl⟩
theorem GF{d:Datum}{N:Int}(h:ot d N)(hN:N.natAbs<9007199254740992):jm (double.write d) N:=⟨double.write_lt d,Yi h hN⟩
theorem afU{N:Int}(hN:N.natAbs<9007199254740992):jm (Go.FloatKind.nearest .f64 N) N:=GF (aai N) hN
theorem Mo{x y:Nat}{N M:Int}(hx:jm x N)(hy:jm y M)(h:(N+M).natAbs<9007199254740992):∃r,floatBits .add .f64 x y=some r∧jm r (N+M):=by
 obtain⟨d,e1,e2⟩:=RK hx.isInt hy.isInt
 exact⟨double.write d,congrArg (Option.map double.write) e1,GF e2 h⟩
theorem Mn{x y:Nat}{N M:Int}(hx:jm x N)(hy:jm y M)(h:(N-M).natAbs<9007199254740992):∃r,floatBits .sub .f64 x y=some r∧jm r (N-M):=by
 obtain⟨d,e1,e2⟩:=RK hx.isInt (RL hy.isInt)
 rw[← Int.sub_eq_add_neg]at e2
 exact⟨double.write d,congrArg (Option.map double.write) e1,GF e2 h⟩
theorem Hq{x y:Nat}{N M:Int}(hx:jm x N)(hy:jm y M)(h:(N*M).natAbs<9007199254740992):∃r,floatBits .mul .f64 x y=some r∧jm r (N*M):=by
 obtain⟨d,e1,e2⟩:=Y6 hx.isInt hy.isInt
 exact⟨double.write d,congrArg (Option.map double.write) e1,GF e2 h⟩
theorem aen{x:Nat}{N:Int}(hx:jm x N)(k:IntKind)(h:k.min≤N∧N≤k.max):floatToIntVal .f64 x k=some N:=by
 unfold floatToIntVal
 have:(FloatKind.f64.decode x).toInt .zero=some N:=Yj hx.isInt
 rw[this]
 exact ah h
theorem LN:jm 0 0:=⟨by decide,⟨false,0,-1074,Rv false,by rw[yd,JQ,yd],fun h=>absurd rfl h⟩⟩
theorem Ti{b:Nat}(h:b<2 ^ 64):b ^^^ 2 ^ 63=if b<2 ^ 63 then b+2 ^ 63 else b-2 ^ 63:=by
 have e:((BitVec.ofNat 64 b) ^^^ (BitVec.ofNat 64 (2 ^ 63))).toNat=b ^^^ 2 ^ 63:=by
  rw[BitVec.toNat_xor,BitVec.toNat_ofNat,BitVec.toNat_ofNat,wH h,wH (by decide)]
 by_cases hb:b<2 ^ 63
 ·rw[ah hb]
  have:=Pt hb 1
  rw[er]at this
  rw[Nat.add_comm,this]
  refine Cm fun i=>?_
  rw[Nat.testBit_xor,JO,Pm]
  by_cases hi:63=i
  ·subst hi
   rw[wK hb];rfl
  ·rw[decide_eq_false hi];simp
 ·rw[ag hb]
  obtain⟨c,rfl⟩:∃c,b=2 ^ 63+c:=⟨b-2 ^ 63,by omega⟩
  have hc:c<2 ^ 63:=by
   have:(2:Nat) ^ 64=2 ^ 63+2 ^ 63:=by decide
   omega
  have:=Pt hc 1
  rw[er]at this
  rw[Ka,this]
  refine Cm fun i=>?_
  rw[Nat.testBit_xor,JO,Pm]
  by_cases hi:63=i
  ·subst hi
   rw[wK hc];rfl
  ·rw[decide_eq_false hi];simp
theorem aem{x:Nat}{N:Int}(hx:jm x N):jm (Go.Op.negFloat .f64 x) (-N):=by
 have e:Go.Op.negFloat .f64 x=x ^^^ 2 ^ 63:=rfl
 have ab:x<18446744073709551616:=hx.lt
 have hsw:double.signWeight=9223372036854775808:=by decide
 have agW:double.read (x ^^^ 2 ^ 63)=(double.read x).opposite:=by
  rw[Ti hx.lt]
  have Pd:(2:Nat) ^ 63=9223372036854775808:=by decide
  rw[Pd]
  unfold Format.read
  dsimp only
  rw[hsw]
  by_cases hb:x<9223372036854775808
  ·rw[ah hb,show (x+9223372036854775808) / 9223372036854775808 % 2=1 by omega,show (x+9223372036854775808) % 9223372036854775808=x by omega,show x / 9223372036854775808 % 2=0 by omega,show x % 9223372036854775808=x by omega]
   repeat' split
   all_goals rfl
  ·rw[ag hb,show (x-9223372036854775808) / 9223372036854775808 % 2=0 by omega,show (x-9223372036854775808) % 9223372036854775808=x-9223372036854775808 by omega,show x / 9223372036854775808 % 2=1 by omega,show x % 9223372036854775808=x-9223372036854775808 by omega]
   repeat' split
   all_goals rfl
 rw[e]
 refine⟨?_,by rw[agW];exact RL hx.isInt⟩
 rw[Ti hx.lt]
 have Pd:(2:Nat) ^ 63=9223372036854775808:=by decide
 have jR:(2:Nat) ^ 64=18446744073709551616:=by decide
 rw[Pd,jR]
 split <;> omega
def ob(w:World)(b:Nat):Prop:=∃c T fz,w.heap[b]?=some (.cells c T fz)
def FC(F:Nat→Prop)(w:World)(b:Nat):Prop:=F b∧ob w b
def kT(F:Nat→Prop)(w:World):(s:Sh)→List Value→s.T→Prop
 |.int k,cs,(n:Int)=>cs=[.int k n]
 |.bool,cs,(b:Bool)=>cs=[.bool b]
 |.str,cs,(s:ByteArray)=>cs=[.string s]
 |.slice e,cs,(l:List e.T)=>∃(a:Option Addr) (c:Nat),cs=[.slice a l.length c]∧l.length≤c∧c≤maxLen∧(a=none→c=0)∧
   (l≠[]→∃b o,a=some ⟨b,o,none⟩∧FC F w b∧∀i,(h:i<l.length)→∃cs',cs'.length=e.size∧vP w b (o+i*e.size) cs'∧kT F w e cs' l[i])
 |.nil,cs,_=>cs=[]
 |.field f r,cs,(d:f.T×r.T)=>∃c1 c2,cs=c1++c2∧c1.length=f.size∧kT F w f c1 d.1∧kT F w r c2 d.2
def EL(w:World)(b off len e:Nat)(a:Addr)(cap:Nat):Prop:=
 ∃c T fz,w.heap[b]?=some (.cells c T fz)∧len≤cap∧cap≤maxLen∧((a=⟨b,off,none⟩∧off+cap*e≤c.size)∨(a.block=b∧a.spot=none∧len=0∧cap=0))
inductive aA(F:Nat→Prop)(w:World):AV→Value→Prop where
 |int (k:IntKind) (n:Int):aA F w (.int k n) (.int k n)
 |bool (b:Bool):aA F w (.bool b) (.bool b)
 |str (s:ByteArray):aA F w (.str s) (.string s)
 |ae (e:Sh) (l:List e.T) (v:Value) (h:kT F w (.slice e) [v] l):aA F w (.ae e l) v
 |kz (a:Option Addr):aA F w .kz (.slice a 0 0)
 |gH (a:Addr) (c:Nat) (h:c≤maxLen):aA F w .gH (.slice (some a) 0 c)
 |ai:aA F w .ai (.slice none 0 0)
 |af (b off len e:Nat) (a:Addr) (cap:Nat) (h:EL w b off len e a cap):aA F w (.af b off len e) (.slice (some a) len cap)
 |cU:aA F w .cU (.pointer none)
 |ptr (b off:Nat) (h:ob w b):aA F w (.ptr b off) (.pointer (some ⟨b,off,none⟩))
 |fX (cs:List AV) (b o:Nat) (f:Nat→Value) (hF:FC F w b) (h1:∀i x,cs[i]?=some x→w.cell? ⟨b,o+i,none⟩=some (f i)) (hl:∀(i:Nat) (x:AV),cs[i]?=some x→x.leaf=true) (h:∀i x,cs[i]?=some x→aA F w x (f i)):aA F w (.fX cs) (.pointer (some ⟨b,o,none⟩))
 |agg (cs:List AV) (vs:Array Value) (hs:cs.length=vs.size) (hl:∀(i:Nat) (x:AV),cs[i]?=some x→x.leaf=true) (h:∀i x,cs[i]?=some x→aA F w x (vs.getD i undef)):aA F w (.agg cs) (.agg vs)
 |tup (cs:List AV) (vs:Array Value) (hs:cs.length=vs.size) (h:∀i x,cs[i]?=some x→aA F w x (vs.getD i undef)):aA F w (.tup cs) (.tuple vs)
 |iface (t:TypeId) (a:AV) (v:Value) (h:aA F w a v):aA F w (.iface t a) (.iface t v)
 |nilif:aA F w .nilif .nilIface
 |fn (f:Fn) (c1 c2:List AV) (v1 v2:Array Value) (fk:c1.length=v1.size) (gF:c2.length=v2.size) (h1:∀i x,c1[i]?=some x→aA F w x (v1.getD i undef)) (h2:∀i x,c2[i]?=some x→aA F w x (v2.getD i undef)):aA F w (.fn f c1 c2) (.func f v1 v2)
 |iH:aA F w .iH .nilFunc
 |pO:aA F w .pO (.map none)
 |gr (n:Int) (b:Nat) (h:jm b n):aA F w (.gr n) (.float .f64 b)
 |fR (n m:Int) (a b:Nat) (h1:jm a n) (h2:jm b m):aA F w (.fR n m) (.complex .f64 a b)
 |any (v:Value):aA F w .any v
 |via (x:AV) (v:Value) (hl:x.leaf=true) (h:aA F w x v):aA F w (.via x) v
 |nD (b:Nat):aA F w (.nD b) (.map (some b))
 |nL (b:Nat):aA F w (.nL b) (.pointer (some ⟨b,0,none⟩))
def ja(F:Nat→Prop)(w:World)(xs:List AV)(vs:Array Value):Prop:=xs.length=vs.size∧∀i x,xs[i]?=some x→aA F w x (vs.getD i undef)
def gk:Nat→List (Int×Int)→List MapEntry
 |_,[]=>[]
 |n,p::l=> { key:=.int .i64 p.1,val:=.int .i64 p.2,born:=n }::gk (n+1) l
def xD:AV→Option Obj
 |.oy l=>some (.map (gk 0 l).toArray l.length)
 |.sF m c s=>some (.mapIter (some m) c s.toArray c)
 |_=>none
def DP(F:Nat→Prop)(w:World)(b:Nat)(cs:List AV):Prop:=
 ∃c T,w.heap[b]?=some (.cells c T (0,0))∧cs.length≤c.size∧∀(i:Nat) (x:AV),cs[i]?=some x→x.leaf=true∧aA F w x (c.getD i undef)
def Holds(F:Nat→Prop)(w:World)(b:Nat)(cs:List AV):Prop:=
 ¬F b∧(DP F w b cs∨(∃x o,cs=[x]∧w.heap[b]?=some o∧xD x=some o)∨∃L t,cs=[.mJ L t]∧w.heap[b]?=some (.loop L)∧∀i,aA F w (t i) (L.tmps.getD i undef))
structure bf(F:Nat→Prop)(w:World)(σ:Hp):Prop where
 nodup:(σ.map Prod.fst).Nodup
 holds:∀p∈σ,Holds F w p.1 p.2
 low:∀b,F b→b<w.heap.size
structure bB(F:Nat→Prop)(w:World)(F':Nat→Prop)(w':World):Prop where
 os:w'.os=w.os
 tape:w'.tape=w.tape
 output:w'.output=w.output
 size:w.heap.size≤w'.heap.size
 sub:∀b,F b→F' b
 fix:∀b,F b→w'.heap[b]?=w.heap[b]?
 rows:∀(b:Nat) (c:Array Value) (T:TypeId) (fz:Nat×Nat),w.heap[b]?=some (.cells c T fz)→∃(c':Array Value) (si:Nat×Nat),w'.heap[b]?=some (.cells c' T si)∧c'.size=c.size
 drawn:w.drawn≤w'.drawn
def Enters(P:Program)(f:FuncId):Prop:=∀(args:Array Value) (w:World),(callFunc f args).run P w=.ok (.enter f args) w
def ACalls(P:Program)(f:FuncId)(args:List AV)(σ:Hp)(R:AV→Hp→Prop):Prop:=
 Enters P f∧∀F w vs,ja F w args vs→bf F w σ→Calls P f vs w fun e w'=>∃r v σ' F',e=.returned v∧bB F w F' w'∧bf F' w' σ'∧aA F' w' r v∧R r σ'
def pull(i:Nat)(σ:Hp):Hp:=match σ[i]? with | some p=>p::σ.eraseIdx i | none=>σ
def oh:List Nat→Hp→Hp
 | [],σ=>σ
 |i::r,σ=>pull i (oh r σ)
inductive jh:Hp→Hp→Prop where
 |refl (σ:Hp):jh σ σ
 |pull (js:List Nat) {σ σ2:Hp} (h:jh (oh js σ) σ2):jh σ σ2
 |drop (k n:Nat) {σ σ2:Hp} (h:jh (σ.take k++σ.drop (k+n)) σ2):jh σ σ2
 |perm {σ j9 σ2:Hp} (hp:j9.Perm σ) (h:jh j9 σ2):jh σ σ2
 |ahF (i b':Nat) (cs kM:List AV) {σ σ2:Hp} (hi:σ[i]?=some (b',cs)) (hl:kM.length=cs.length) (hk:∀(k:Nat) (x y:AV),cs[k]?=some x→kM[k]?=some y→x=y∨(x=.ai∧∃e:Sh,y=.ae e [])) (h:jh (σ.set i (b',kM)) σ2):jh σ σ2
inductive eI(b off len es:Nat)(e:Sh)(l:List e.T):AV→AV→Prop where
 |here:eI b off len es e l (.af b off len es) (.ae e l)
 |refl (x:AV):eI b off len es e l x x
 |tup (xs ys:List AV) (h:xs.length=ys.length) (hi:∀(i:Nat) (x y:AV),xs[i]?=some x→ys[i]?=some y→eI b off len es e l x y):eI b off len es e l (.tup xs) (.tup ys)
 |agg (xs ys:List AV) (h:xs.length=ys.length) (hl:∀(i:Nat) (y:AV),ys[i]?=some y→y.leaf=true) (hi:∀(i:Nat) (x y:AV),xs[i]?=some x→ys[i]?=some y→eI b off len es e l x y):eI b off len es e l (.agg xs) (.agg ys)
 |nil (e':Sh):eI b off len es e l .ai (.ae e' [])
 |gH (e':Sh):eI b off len es e l .gH (.ae e' [])
 |via {x y:AV} (h:eI b off len es e l x y):eI b off len es e l (.via x) y
inductive CallAt(P:Program)(f:FuncId)(K:AV→Hp→Prop):List AV→Hp→Prop where
 |mk {args:List AV} {σ:Hp} (js:List Nat) (R:AV→Hp→Prop) (call:ACalls P f args (oh js σ) R) (go:∀r σ',R r σ'→K r σ'):CallAt P f K args σ
 |perm {args:List AV} {σ σ2:Hp} (R:AV→Hp→Prop) (hp:σ2.Perm σ) (call:ACalls P f args σ2 R) (go:∀r σ',R r σ'→∃ep,ep.Perm σ'∧K r ep):CallAt P f K args σ
 |cX {args args':List AV} {σ:Hp} (j b off len es:Nat) (cs:List AV) (e:Sh) (l:List e.T) (h1:σ[j]?=some (b,cs)) (h2:(cs.drop off).take (len*es)=l.flatMap e.cells) (h3:l.length=len∧e.size=es∧0<es) (h4:eI b off len es e l (.tup args) (.tup args')) (h:CallAt P f K args' (σ.eraseIdx j)):CallAt P f K args σ
 |j6 {args:List AV} {σ:Hp} (j b off len es:Nat) (cs:List AV) (e:Sh) (l:List e.T) (h1:σ[j]?=some (b,cs)) (h2:(cs.drop off).take (len*es)=l.flatMap e.cells) (h3:l.length=len∧e.size=es∧0<es) (i k b':Nat) (cs':List AV) (hi:(σ.eraseIdx j)[i]?=some (b',cs')) (hk:cs'[k]?=some (.af b off len es)) (h:CallAt P f K args ((σ.eraseIdx j).set i (b',cs'.set k (.ae e l)))):CallAt P f K args σ
inductive tU(P:Program)(f:FuncId)(args:List AV)(σ:Hp)(K:AV→Prop):Prop where
 |mk (js:List Nat) (r:AV) (call:ACalls P f args (oh js σ) (fun r' σ'=>r'=r∧σ'=oh js σ)) (go:K r):tU P f args σ K
 |perm {σ2:Hp} (hp:σ2.Perm σ) (r:AV) (call:ACalls P f args σ2 (fun r' σ'=>r'=r∧σ2.Perm σ')) (go:K r):tU P f args σ K
def HY(P:Program)(l:Nat)(args:List AV)(σ:Hp)(R:AV→Hp→Prop):Prop:=
 ∀F w vs,ja F w args vs→bf F w σ→∃f tmps assign body,(Instr.yield l vs).run P w=.ok (.round l f tmps assign body) w∧
  RoundIn Fence.wide 0 P l f tmps assign body w fun e w'=>∃r v σ' F',e=.returned v∧bB F w F' w'∧bf F' w' σ'∧aA F' w' r v∧R r σ'
inductive xn(P:Program)(l:Nat)(K:AV→Hp→Prop):List AV→Hp→Prop where
 |mk {args:List AV} {σ:Hp} (js:List Nat) (R:AV→Hp→Prop) (call:HY P l args (oh js σ) R) (go:∀r σ',R r σ'→K r σ'):xn P l K args σ
 |perm {args:List AV} {σ σ2:Hp} (R:AV→Hp→Prop) (hp:σ2.Perm σ) (call:HY P l args σ2 R) (go:∀r σ',R r σ'→∃ep,ep.Perm σ'∧K r ep):xn P l K args σ
section
variable (P:Program) (TT:TypeId→Option TI)
def Meth(t:TypeId)(m:String)(g:FuncId):Prop:=
 ∀(a:Addr) (w:World),(method (P.types.size+Made.depth) t (.pointer (some a)) m).run P w=.ok (g,.pointer (some a)) w
inductive InvAt(t:TypeId)(m:String)(K:FuncId→Prop):Prop where
 |mk (g:FuncId) (h:Meth P t m g) (go:K g):InvAt t m K
def qn(c:Call)(ρ:Operand→AV)(K:FuncId→List AV→Prop)(KY:Nat→List AV→Prop):Prop:=
 match c.callee with
 |.value f=>match ρ f with
  |.fn (.func g) first cap=>K g (first++(c.args.toList.map fun x=>bP (ρ x))++cap)
  |.fn (.yield l) [] []=>KY l (c.args.toList.map fun x=>bP (ρ x))
  |_=>False
 |.invoke r m=>match ρ r with
  |.iface t (.ptr b o)=>InvAt P t m fun g=>K g (.ptr b o::c.args.toList.map fun x=>bP (ρ x))
  |.iface t (.fX cs)=>InvAt P t m fun g=>K g (.fX cs::c.args.toList.map fun x=>bP (ρ x))
  |_=>False
 |.builtin _=>False
inductive jZ(σ:Hp)(es:Nat):AV→Nat→List AV→Prop where
 |ai:jZ σ es .ai 0 []
 |kz:jZ σ es .kz 0 []
 |gH:jZ σ es .gH 0 []
 |ae (s:Sh) (l:List s.T) (h:s.size=es):jZ σ es (.ae s l) l.length (l.flatMap s.cells)
 |af (j b off len:Nat) (cs:List AV) (h1:σ[j]?=some (b,cs)) (h2:off+len*es≤cs.length):jZ σ es (.af b off len es) len ((cs.drop off).take (len*es))
inductive HB(i:TI)(σ:Hp)(s x:AV)(K:AV→Hp→Prop):Prop where
 |fresh (n:Nat) (new:List AV) (hs:s=.ai∨s=.kz) (hx:jZ σ i.size x n new) (hn:n≤1048576) (hb:i.bytes≤1024) (h0:0<i.size) (go:n≠0→∀b,K (.af b 0 n i.size) ((b,new)::σ)) (same:n=0→K s σ)
 |more (j b len n:Nat) (cs new:List AV) (hs:s=.af b 0 len i.size) (h1:σ[j]?=some (b,cs)) (h2:len*i.size≤cs.length) (hx:jZ σ i.size x n new) (hn:len+n≤1048576) (hb:i.bytes≤1024) (h0:0<i.size)
   (go:∀b',K (.af b' 0 (len+n) i.size) ((b',cs.take (len*i.size)++new)::σ.eraseIdx j)):HB i σ s x K
 |Bc (j b off len n:Nat) (cs new:List AV) (hs:s=.af b off len i.size) (h1:σ[j]?=some (b,cs)) (h2:off+len*i.size≤cs.length) (hx:jZ σ i.size x n new) (hn:len+n≤1048576) (hb:i.bytes≤1024) (h0:0<i.size)
   (xK:K (.af b off (len+n) i.size) ((b,cs.take (off+len*i.size)++new)::σ.eraseIdx j))
   (go:∀b',K (.af b' 0 (len+n) i.size) ((b',(cs.drop off).take (len*i.size)++new)::σ.eraseIdx j)):HB i σ s x K
inductive AppendAt(i:TI)(σ:Hp)(s x:AV)(K:AV→Hp→Prop):Prop where
 |fresh (n:Nat) (new:List AV) (hs:s=.ai∨s=.kz) (hx:jZ σ i.size x n new) (hn:n≤1048576) (hb:i.bytes≤1024) (h0:0<i.size) (go:n≠0→∀b,K (.af b 0 n i.size) ((b,new)::σ)) (same:n=0→K s σ)
 |more (j b len n:Nat) (cs new:List AV) (hs:s=.af b 0 len i.size) (h1:σ[j]?=some (b,cs)) (h2:len*i.size≤cs.length) (hx:jZ σ i.size x n new) (hn:len+n≤1048576) (hb:i.bytes≤1024) (h0:0<i.size)
   (go:∀b',K (.af b' 0 (len+n) i.size) ((b',cs.take (len*i.size)++new)::σ.eraseIdx j)):AppendAt i σ s x K
 |Bc (j b off len n:Nat) (cs new:List AV) (hs:s=.af b off len i.size) (h1:σ[j]?=some (b,cs)) (h2:off+len*i.size≤cs.length) (hx:jZ σ i.size x n new) (hn:len+n≤1048576) (hb:i.bytes≤1024) (h0:0<i.size)
   (xK:K (.af b off (len+n) i.size) ((b,cs.take (off+len*i.size)++new)::σ.eraseIdx j))
   (go:∀b',K (.af b' 0 (len+n) i.size) ((b',(cs.drop off).take (len*i.size)++new)::σ.eraseIdx j)):AppendAt i σ s x K
 |perm {σ2:Hp} (K2:AV→Hp→Prop) (hp:σ2.Perm σ) (h:HB i σ2 s x K2) (hk:∀v ep,K2 v ep→∃zA,zA.Perm ep∧(K v zA∨(v.leaf=true∧K (.via v) zA))):AppendAt i σ s x K
inductive DG(i:TI)(σ:Hp)(s x:AV)(K:AV→Hp→Prop):Prop where
 |ai (k:IntKind) (n:Int) (hs:s=.ai) (hx:x=.int k n) (hn:0≤n∧n≤1048576) (hb:i.bytes≤1024) (h0:0<i.size) (go:0<n→∀b,K (.af b 0 n.toNat i.size) ((b,cJ i.zero n.toNat)::σ)) (same:n=0→K .ai σ):DG i σ s x K
inductive MA(i:TI)(σ:Hp)(s:AV)(K:Hp→Prop):Prop where
 |none (hs:s=.ai∨s=.kz∨s=.gH) (go:K σ)
 |af (j b off len:Nat) (cs:List AV) (hs:s=.af b off len i.size) (h1:σ[j]?=some (b,cs)) (h2:off+len*i.size≤cs.length) (go:K (σ.set j (b,fL cs off (cJ i.zero len))))
inductive M5(i:TI)(σ:Hp)(d x:AV)(K:AV→Hp→Prop):Prop where
 |af (j b off len n:Nat) (cs new:List AV) (hd:d=.af b off len i.size) (h1:σ[j]?=some (b,cs)) (h2:off+len*i.size≤cs.length) (hx:jZ σ i.size x n new) (hn:n≤len) (go:K (.int .i64 n) (σ.set j (b,fL cs off new)))
 |none (new:List AV) (hd:d=.ai∨d=.kz∨d=.gH) (hx:jZ σ i.size x 0 new) (go:K (.int .i64 0) σ)
 |part (j b off len:Nat) (cs:List AV) (hd:d=.af b off len i.size) (h1:σ[j]?=some (b,cs)) (h2:off+len*i.size≤cs.length) (j2 b2 nA n:Nat) (kM:List AV) (hx:x=.af b2 nA n i.size) (h3:σ[j2]?=some (b2,kM)) (h4:nA+n*i.size≤kM.length) (hn:len≤n) (go:K (.int .i64 len) (σ.set j (b,fL cs off ((kM.drop nA).take (len*i.size)))))
def AK(t:TypeId)(m k x:AV)(σ:Hp)(K:AV→Hp→Prop):Prop:=
 match Bw TT t,k,x with
 |some _,.int .i64 n,.int .i64 v=>Is σ m fun j b l=>K .any (σ.set j (b,[.oy (rP l n v)]))
 |_,_,_=>False
def HG(t:TypeId)(m:AV)(σ:Hp)(K:AV→Hp→Prop):Prop:=
 match Bw TT t with
 |some _=>Is σ m fun _ b l=>∀r,K (.nL r) ((r,[.sF b l.length []])::σ)
 |none=>False
inductive M3(σ:Hp)(x:AV)(K:AV→Hp→Prop):Prop where
 |mk (j j2 r b:Nat) (l:List (Int×Int)) (seen:List Nat) (hx:x=.nL r) (h1:σ[j]?=some (r,[.sF b l.length seen])) (h2:σ[j2]?=some (b,[.oy l]))
   (stop:(∀i:Nat,i<l.length→i∈seen)→K (.tup [.bool false]) σ)
   (go:∀(i:Nat) (p:Int×Int),l[i]?=some p→i ∉ seen→K (.tup [.bool true,.int .i64 p.1,.int .i64 p.2]) (σ.set j (r,[.sF b l.length (seen++[i])]))):M3 σ x K
inductive Mz(σ:Hp)(x:AV)(K:AV→Hp→Prop):Prop where
 |mk (j j2 r b i:Nat) (l:List (Int×Int)) (p:Int×Int) (seen:List Nat) (hx:x=.nL r) (h1:σ[j]?=some (r,[.sF b l.length (seen++[i])])) (h2:σ[j2]?=some (b,[.oy l])) (h3:l[i]?=some p)
   (go:K (.tup [.int .i64 p.1,.int .i64 p.2]) σ):Mz σ x K
def gU(o:Op)(ρ:Operand→AV)(σ:Hp)(K:AV→Hp→Prop):Prop:=
 match o with
 |.box _ x=>match (ρ x).cells? with | some cs=>∀b,K (.ptr b 0) ((b,cs)::σ) | none=>False
 |.alloc e=>match TT e with | some i=>∀b,K (.ptr b 0) ((b,i.zero)::σ) | none=>False
 |.buildSlice t len parts=>match TT t with
  |some ⟨.slice e,_,_,_⟩=>match TT e with
   |some i=>match sA ((List.range len).map fun j=>(j*i.size,i.size)) (cJ i.zero len) (parts.toList.map fun p=>(p.1,ρ p.2)),Nat.ble (len*i.size) 16777216,Nat.ble 1 i.size with
    |some cs,true,true=>∀b,K (.af b 0 len i.size) ((b,cs)::σ)
    |_,_,_=>False
   |none=>False
  |_=>False
 |.makeSlice t l c=>match TT t,ρ l,ρ c with
  |some ⟨.slice e,_,_,_⟩,.int _ n,.int _ m=>match TT e with
   |some i=>aG (0≤n∧n≤m∧m≤1048576∧i.bytes≤1024) (∀b,K (.af b 0 n.toNat i.size) ((b,cJ i.zero n.toNat)::σ))
   |none=>False
  |_,_,_=>False
 |.store t a x=>match TT t with
  |some i=>match ρ a with | .ptr b o=>HA i σ b o (ρ x) (fun σ'=>K .any σ') | _=>False
  |none=>False
 |.makeMap t none=>match Bw TT t with | some _=>∀b,K (.nD b) ((b,[.oy []])::σ) | none=>False
 |.mapUpdate t m k x=>AK TT t (bP (ρ m)) (bP (ρ k)) (bP (ρ x)) σ K
 |.insert t m k x=>AK TT t (bP (ρ m)) (bP (ρ k)) (bP (ρ x)) σ K
 |.range t x=>HG TT t (bP (ρ x)) σ K
 |.next x s=>match s with | false=>M3 σ (bP (ρ x)) K | true=>False
 |.entry x=>Mz σ (bP (ρ x)) K
 |.call ⟨.builtin .append,args,cy⟩=>match args.toList,cy.toList with
  | [s,x],[t,t']=>match TT t,TT t' with
   |some ⟨.slice e,_,_,_⟩,some ⟨.slice _,_,_,_⟩=>match TT e with | some i=>AppendAt i σ (bP (ρ s)) (bP (ρ x)) K | none=>False
   |some ⟨.slice e,_,_,_⟩,some ⟨.int _,_,_,_⟩=>match TT e with | some i=>DG i σ (bP (ρ s)) (bP (ρ x)) K | none=>False
   |_,_=>False
  |_,_=>False
 |.call ⟨.builtin .clear,args,cy⟩=>match args.toList,cy.toList with
  | [s],[t]=>match TT t with
   |some ⟨.slice e,_,_,_⟩=>match TT e with | some i=>MA i σ (bP (ρ s)) (fun σ'=>K (.tup []) σ') | none=>False
   |_=>False
  |_,_=>False
 |.call ⟨.builtin .copy,args,cy⟩=>match args.toList,cy.toList with
  | [d,x],[t,t']=>match TT t,TT t' with
   |some ⟨.slice e,_,_,_⟩,some ⟨.slice _,_,_,_⟩=>match TT e with | some i=>M5 i σ (bP (ρ d)) (bP (ρ x)) K | none=>False
   |_,_=>False
  |_,_=>False
 |.call ⟨.builtin b,args,cy⟩=>fH P TT (.call ⟨.builtin b,args,cy⟩) ρ σ (fun v=>K v σ)
 |.call c=>qn P c ρ (fun f xs=>CallAt P f K xs σ) (fun l xs=>xn P l K xs σ)
 |o=>fH P TT o ρ σ (fun v=>K v σ)
def py(ops:List Oper)(o:Oper)(t:Tm)(A B:Prop):Prop:=
 match o.guard with
 |none=>A
 |some (j,want)=>match (ops[j]?).bind (·.dst) with
  |some d=>match t d with
   |.bool b=>(match want,b with | true,true=>A | true,false=>B | false,true=>B | false,false=>A)
   |.tup []=>B
   |_=>False
  |none=>False
def WC(ops:List Oper)(l:List Oper):Tm→Hp→(Tm→Hp→Prop)→Prop:=
 List.rec (motive:=fun _=>Tm→Hp→(Tm→Hp→Prop)→Prop) (fun t σ K=>K t σ)
  (fun o _ ih t σ K=>py ops o t (gU P TT o.op (ev t) σ fun v σ'=>ih (put t o.dst v) σ' K) (ih (put t o.dst (.tup [])) σ K)) l
def vT(o:Op)(ρ:Operand→AV)(σ:Hp)(K:AV→Prop):Prop:=
 match o with
 |.call ⟨.builtin b,args,cy⟩=>fH P TT (.call ⟨.builtin b,args,cy⟩) ρ σ K
 |.call c=>qn P c ρ (fun f xs=>tU P f xs σ K) (fun _ _=>False)
 |o=>fH P TT o ρ σ K
def Ix(ops:List Oper)(l:List Oper):Tm→Hp→(Tm→Prop)→Prop:=
 List.rec (motive:=fun _=>Tm→Hp→(Tm→Prop)→Prop) (fun t _ K=>K t)
  (fun o _ ih t σ K=>py ops o t (vT P TT o.op (ev t) σ fun v=>ih (put t o.dst v) σ K) (ih (put t o.dst (.tup [])) σ K)) l
def blind:Op→Bool
 |.move _ | .assign _ | .pick .. | .build .. | .nilCheck _ | .binOp .. | .unOp .. | .convert .. | .makeInterface .. | .makeFunc .. | .slice .. | .fieldAddr .. | .field .. | .indexAddr .. | .extract .. | .typeAssert .. => true
 |.call ⟨.builtin .len,_,_⟩ | .call ⟨.builtin .min,_,_⟩ | .call ⟨.builtin .max,_,_⟩=>true
 |_=>false
def iT(ops:List Oper)(ax:List Bool):List Nat:=
 (List.range ops.length).filter fun i=> !ax.getD i true&&(match ops[i]? with | some o=>o.after.toList.all fun e=> !Region.binds .any e||ax.getD e.on false | none=>false)
def Bu(ops:List Oper)(i:Nat)(t:Tm)(σ:Hp)(K:Tm→Hp→Prop):Prop:=
 match ops[i]? with
 |some o=>py ops o t (gU P TT o.op (ev t) σ fun v σ'=>K (put t o.dst v) σ') (K (put t o.dst (.tup [])) σ)
 |none=>False
def N2(f:Nat→Prop)(l:List Nat):Prop:=
 List.rec (motive:=fun _=>Prop) True (fun i r ih=>match r with | []=>f i | _=>f i∧ih) l
def tK:Op→Bool
 |.load _ _=>true
 |_=>false
def oI(o:Op):Bool:= !(blind o||tK o)
def qo(o:Oper)(j:Nat):Bool:=o.after.toList.any fun e=>Region.binds .any e&&Nat.beq e.on j
def agH(ops:List Oper)(ax:List Bool)(i:Nat):Bool:=ops.zipIdx.all fun (o,j)=> !oI o.op||ax.getD j false||qo o i
def MO(ops:List Oper)(ax:List Bool)(i:Nat):Bool:=
 match ops[i]? with
 |some o=>blind o.op||(tK o.op&&agH ops ax i)
 |none=>false
def vK(ops:List Oper)(n:Nat):List Bool→Tm→Hp→(Tm→Hp→Prop)→Prop:=
 Nat.rec (motive:=fun _=>List Bool→Tm→Hp→(Tm→Hp→Prop)→Prop) (fun _ _ _ _=>False)
  (fun _ ih ax t σ K=>match iT ops ax with
   | []=>K t σ
   |i::r=>match (i::r).find? (MO ops ax) with
    |some j=>Bu P TT ops j t σ fun t' σ'=>ih (ax.set j true) t' σ' K
    |none=>N2 (fun j=>Bu P TT ops j t σ fun t' σ'=>ih (ax.set j true) t' σ' K) (i::r)) n
theorem R7{ops:List Oper}{n:Nat}{ax:List Bool}{t:Tm}{σ:Hp}{K:Tm→Hp→Prop}:vK P TT ops (n+1) ax t σ K=(match iT ops ax with
   | []=>K t σ
   |i::r=>match (i::r).find? (MO ops ax) with
    |some j=>Bu P TT ops j t σ fun t' σ'=>vK P TT ops n (ax.set j true) t' σ' K
    |none=>N2 (fun j=>Bu P TT ops j t σ fun t' σ'=>vK P TT ops n (ax.set j true) t' σ' K) (i::r)):=rfl
def yV(ops:List Oper)(o:Oper):List Tmp:=
 (o.op.operands.toList.filterMap fun | .tmp t=>some t | _=>none)++(match o.guard with | some (g,_)=>((ops[g]?).bind (·.dst)).toList | none=>[])
def Hf(ops:List Oper):Bool:=
 let z:=ops.zipIdx
 z.all fun (o,i)=>
  (o.after.toList.all fun e=> !Region.binds .any e||Nat.blt e.on i) &&
  (z.all fun (p,j)=>match p.dst with
   |none=>true
   |some d=>(Nat.beq i j||match o.dst with | some d'=> !Nat.beq d d' | none=>true) &&
    (!(yV ops o).any (Nat.beq d)||Nat.beq i j||(Nat.blt j i&&qo o j)||(Nat.blt i j&&qo p i)))
def sn(ops:List Oper):Bool:=
 let z:=ops.zipIdx
 z.all fun (o,i)=>(match o.op with | .select .. => false | _=>true)&&z.all fun (p,j)=>Nat.beq i j||qo o j||qo p i||o.apart ops.toArray p
def eN(g:Tm):List (Nat×AV)→Tm
 | []=>g
 |(i,v)::r=>fun j=>match Nat.beq j i with | true=>v | false=>eN g r j
def agree(t:Tm):List (Nat×AV)→Prop
 | []=>True
 |(i,v)::r=>t i=v∧agree t r
theorem AA{t:Tm}{l:List (Nat×AV)}(h:agree t l):t=eN t l:=by
 induction l with
 |nil=>rfl
 |cons p r ih=>
  obtain⟨i,v⟩:=p
  obtain⟨h1,h2⟩:=h
  funext j
  show t j=(match Nat.beq j i with | true=>v | false=>eN t r j)
  cases hb:Nat.beq j i with
  |true=>rw[jF hb];exact h1
  |false=>exact congrFun (ih h2) j
inductive dh{S:Type}(L:S→List (Nat×AV))(H:S→Hp)(t':Tm)(σ':Hp):Prop where
 |mk (s:S) (h3:agree t' (L s)) (h4:jh σ' (H s)):dh L H t' σ'
def jM(ops:List Oper)(q:Bool)(i:Nat)(t:Tm)(σ:Hp)(K:Tm→Hp→Prop):Prop:=
 match ops[i]? with
 |some o=>match q with
  |true=>py ops o t (vT P TT o.op (ev t) σ fun v=>K (put t o.dst v) σ) (K (put t o.dst (.tup [])) σ)
  |false=>py ops o t (gU P TT o.op (ev t) σ fun v σ'=>K (put t o.dst v) σ') (K (put t o.dst (.tup [])) σ)
 |none=>False
def eY(j:Nat)(l:List Nat):Bool:=l.any (Nat.beq j)
def qH(ops:List Oper)(Q:List Nat)(n:Nat):List Bool→Tm→Hp→(Tm→Hp→Prop)→Prop:=
 Nat.rec (motive:=fun _=>List Bool→Tm→Hp→(Tm→Hp→Prop)→Prop) (fun _ _ _ _=>False)
  (fun _ ih ax t σ K=>(iT ops ax=[]→K t σ)∧∀i∈iT ops ax,jM P TT ops (eY i Q) i t σ fun t' σ'=>ih (ax.set i true) t' σ' K) n
def NB(o:Oper)(acc:List (List Nat)):List Nat:=o.after.toList.flatMap fun e=>match Region.binds .any e with | true=>e.on::(acc[e.on]?).getD [] | false=>[]
def M6:List Oper→List (List Nat)→List (List Nat)
 | [],acc=>acc
 |o::os,acc=>M6 os (acc++[(NB o acc).eraseDups])
def vH(ops:List Oper)(Q:List Nat)(k:Nat):Bool:=match ops[k]? with | some o=>oI o.op&&!eY k Q | none=>false
def H7:Op→Bool
 |.alloc _ | .box _ _=>true
 |_=>false
def Em(ops:List Oper)(k:Nat):Bool:=match ops[k]? with | some o=>H7 o.op | none=>false
def A5(ops:List Oper)(rows:List (List Nat))(Q:List Nat)(ax:List Bool)(j:Nat):Bool:=
 match ops[j]? with
 |some o=>(blind o.op&&!eY j Q)||((tK o.op||eY j Q)&&(List.range ops.length).all fun k=>ax.getD k false||!vH ops Q k||eY j ((rows[k]?).getD [])||(tK o.op&&!eY j Q&&Em ops k))
 |none=>false
inductive re where
 |stop
 |one (j:Nat) (q:Bool) (s:re)
 |alt (j:Nat) (s r:re)
 |BF (j:Nat) (s r:re)
def lF(ops:List Oper)(rows:List (List Nat))(Q:List Nat):re→Nat→List Nat→List Bool→Bool
 |.stop,n,nz,ax=>match n,nz,iT ops ax with | _+1,[],[]=>true | _,_,_=>false
 |.one j q s,n,nz,ax=>match n,nz with
  |n+1,[]=>(eY j Q == q)&&eY j (iT ops ax)&&(A5 ops rows Q ax j||(match iT ops ax with | [i]=>Nat.beq i j | _=>false))&&lF ops rows Q s n [] (ax.set j true)
  |n,[i]=>(eY j Q == q)&&Nat.beq i j&&lF ops rows Q s n [] (ax.set j true)
  |_,_=>false
 |.alt j s r,n,nz,ax=>match n,nz with
  |n+1,[]=>(match iT ops ax with
   |i::i2::l=>Nat.beq i j&&!eY j Q&&lF ops rows Q s n [] (ax.set j true)&&lF ops rows Q r n (i2::l) ax
   |_=>false)
  |n,i::i2::l=>Nat.beq i j&&!eY j Q&&lF ops rows Q s n [] (ax.set j true)&&lF ops rows Q r n (i2::l) ax
  |_,_=>false
 |.BF j s r,n,nz,ax=>match n,nz with
  |n+1,[]=>(match iT ops ax with
   |i::i2::l=>Nat.beq i j&&eY j Q&&lF ops rows Q s n [] (ax.set j true)&&lF ops rows Q r n (i2::l) ax
   |_=>false)
  |n,i::i2::l=>Nat.beq i j&&eY j Q&&lF ops rows Q s n [] (ax.set j true)&&lF ops rows Q r n (i2::l) ax
  |_,_=>false
def vB(ops:List Oper)(s:re):Tm→Hp→(Tm→Hp→Prop)→Prop:=
 re.rec (motive:=fun _=>Tm→Hp→(Tm→Hp→Prop)→Prop) (fun t σ K=>K t σ)
  (fun j q _ ih t σ K=>jM P TT ops q j t σ fun t' σ'=>ih t' σ' K)
  (fun j _ _ ih jP t σ K=>jM P TT ops false j t σ (fun t' σ'=>ih t' σ' K)∧jP t σ K)
  (fun j _ _ ih jP t σ K=>jM P TT ops true j t σ (fun t' σ'=>ih t' σ' K)∧jP t σ K) s
def aha:Op→Bool
 |.call ⟨.builtin _,_,_⟩=>false
 |.call _=>true
 |_=>false
def HH(ops:List Oper)(Q:List Nat)(s:re):Bool:=
 sn ops&&Q.all (fun j=>match ops[j]? with | some o=>aha o.op | none=>false)&&lF ops (M6 ops []) Q s (ops.length+1) [] (List.replicate ops.length false)
inductive gz(ops:List Oper)(K:Tm→Hp→Prop):Tm→Hp→Prop where
 |quiet {t:Tm} {σ:Hp} (h0:Hf ops=true) (h:Ix P TT ops ops t σ fun t'=>K t' σ):gz ops K t σ
 |each {t:Tm} {σ:Hp} (h0:sn ops=true) (h:vK P TT ops (ops.length+1) (List.replicate ops.length false) t σ K):gz ops K t σ
 |sched {t:Tm} {σ:Hp} (Q:List Nat) (s:re) (h0:HH ops Q s=true) (h:vB P TT ops s t σ K):gz ops K t σ
 |meet {t:Tm} {σ:Hp} {S:Type} (L:S→List (Nat×AV)) (H:S→Hp) (h0:sn ops=true) (h:vK P TT ops (ops.length+1) (List.replicate ops.length false) t σ (dh L H)) (go:∀s g,K (eN g (L s)) (H s)):gz ops K t σ
 |H6 {t:Tm} {σ:Hp} {S:Type} (Q:List Nat) (s:re) (L:S→List (Nat×AV)) (H:S→Hp) (h0:HH ops Q s=true) (h:vB P TT ops s t σ (dh L H)) (go:∀s g,K (eN g (L s)) (H s)):gz ops K t σ
 |cX {t t':Tm} {σ:Hp} (j b off len es:Nat) (cs:List AV) (e:Sh) (l:List e.T) (h1:σ[j]?=some (b,cs)) (h2:(cs.drop off).take (len*es)=l.flatMap e.cells) (h3:l.length=len∧e.size=es∧0<es) (h4:∀i,eI b off len es e l (t i) (t' i)) (h:gz ops K t' (σ.eraseIdx j)):gz ops K t σ
 |dN {t:Tm} {σ σ2:Hp} (h1:jh σ σ2) (h:gz ops K t σ2):gz ops K t σ
inductive Ex where
 |normal | exit (id:Nat) | goto (l:Nat) | ret
def Head{S:Type}(L:S→List (Nat×AV))(H:S→Hp)(p:S→Prop)(μ:S→Nat)(m:Nat)(t:Tm)(σ:Hp):Prop:=∃s g,m=μ s∧p s∧t=eN g (L s)∧σ=H s
inductive pI{S:Type}(L:S→List (Nat×AV))(H:S→Hp)(p:S→Prop)(μ:S→Nat)(s:S):Tm→Hp→Prop where
 |mk {t':Tm} {σ':Hp} (s':S) (h1:μ s'<μ s) (h2:p s') (h3:agree t' (L s')) (h4:jh σ' (H s')):pI L H p μ s t' σ'
 |cX {t' t2:Tm} {σ':Hp} (j b off len es:Nat) (cs:List AV) (e:Sh) (l:List e.T) (h1:σ'[j]?=some (b,cs)) (h2:(cs.drop off).take (len*es)=l.flatMap e.cells) (h3:l.length=len∧e.size=es∧0<es) (h4:∀i,eI b off len es e l (t' i) (t2 i)) (h:pI L H p μ s t2 (σ'.eraseIdx j)):pI L H p μ s t' σ'
 |j6 {t':Tm} {σ':Hp} (j b off len es:Nat) (cs:List AV) (e:Sh) (l:List e.T) (h1:σ'[j]?=some (b,cs)) (h2:(cs.drop off).take (len*es)=l.flatMap e.cells) (h3:l.length=len∧e.size=es∧0<es) (i k b':Nat) (cs':List AV) (hi:(σ'.eraseIdx j)[i]?=some (b',cs')) (hk:cs'[k]?=some (.af b off len es)) (h:pI L H p μ s t' ((σ'.eraseIdx j).set i (b',cs'.set k (.ae e l)))):pI L H p μ s t' σ'
 |dN {t':Tm} {σ' σ2:Hp} (h1:jh σ' σ2) (h:pI L H p μ s t' σ2):pI L H p μ s t' σ'
 |nil {t' t2:Tm} {σ':Hp} (h4:∀i,eI 0 0 0 0 .bool [] (t' i) (t2 i)) (h:pI L H p μ s t2 σ'):pI L H p μ s t' σ'
inductive mN(body:Tm→Hp→(Ex→Tm→Hp→Prop)→Prop)(Q:Ex→Tm→Hp→Prop):Tm→Hp→Prop where
 |mk {t:Tm} {σ:Hp} {S:Type} (L:S→List (Nat×AV)) (H:S→Hp) (p:S→Prop) (μ:S→Nat) (s0:S) (h0:p s0∧agree t (L s0)∧σ=H s0)
   (round:∀s g,p s→body (eN g (L s)) (H s) (fun e t' σ'=>match e with | .normal=>pI L H p μ s t' σ' | e=>Q e t' σ')):mN body Q t σ
 |cX {t t':Tm} {σ:Hp} (j b off len es:Nat) (cs:List AV) (e:Sh) (l:List e.T) (h1:σ[j]?=some (b,cs)) (h2:(cs.drop off).take (len*es)=l.flatMap e.cells) (h3:l.length=len∧e.size=es∧0<es) (h4:∀i,eI b off len es e l (t i) (t' i)) (h:mN body Q t' (σ.eraseIdx j)):mN body Q t σ
 |dN {t:Tm} {σ σ2:Hp} (h1:jh σ σ2) (h:mN body Q t σ2):mN body Q t σ
 |wrap {t:Tm} {σ:Hp} (k:Nat) (v:AV) (h1:t k=v) (h2:v.leaf=true) (h:mN body Q (eN t [(k,.via v)]) σ):mN body Q t σ
 |nil {t t':Tm} {σ:Hp} (h4:∀i,eI 0 0 0 0 .bool [] (t i) (t' i)) (h:mN body Q t' σ):mN body Q t σ
def Wk(R:Nat→Tm→Hp→(Ex→Tm→Hp→Prop)→Prop)(k:Nat):Nat→Tm→Hp→(Ex→Tm→Hp→Prop)→Prop:=
 Nat.rec (motive:=fun _=>Nat→Tm→Hp→(Ex→Tm→Hp→Prop)→Prop) (fun _ _ _ _=>False)
  (fun _ ih l t σ Q=>R l t σ fun e t' σ'=>match e with | .goto l'=>ih l' t' σ' Q | e=>Q e t' σ') k
inductive rM{S:Type}(fZ:S→Nat)(L:S→List (Nat×AV))(H:S→Hp)(p:S→Prop)(μ:S→Nat)(s:S)(l:Nat):Tm→Hp→Prop where
 |mk {t':Tm} {σ':Hp} (s':S) (h0:l=fZ s') (h1:μ s'<μ s) (h2:p s') (h3:agree t' (L s')) (h4:jh σ' (H s')):rM fZ L H p μ s l t' σ'
 |cX {t' t2:Tm} {σ':Hp} (j b off len es:Nat) (cs:List AV) (e:Sh) (d:List e.T) (h1:σ'[j]?=some (b,cs)) (h2:(cs.drop off).take (len*es)=d.flatMap e.cells) (h3:d.length=len∧e.size=es∧0<es) (h4:∀i,eI b off len es e d (t' i) (t2 i)) (h:rM fZ L H p μ s l t2 (σ'.eraseIdx j)):rM fZ L H p μ s l t' σ'
 |j6 {t':Tm} {σ':Hp} (j b off len es:Nat) (cs:List AV) (e:Sh) (d:List e.T) (h1:σ'[j]?=some (b,cs)) (h2:(cs.drop off).take (len*es)=d.flatMap e.cells) (h3:d.length=len∧e.size=es∧0<es) (i k b':Nat) (cs':List AV) (hi:(σ'.eraseIdx j)[i]?=some (b',cs')) (hk:cs'[k]?=some (.af b off len es)) (h:rM fZ L H p μ s l t' ((σ'.eraseIdx j).set i (b',cs'.set k (.ae e d)))):rM fZ L H p μ s l t' σ'
 |dN {t':Tm} {σ' σ2:Hp} (h1:jh σ' σ2) (h:rM fZ L H p μ s l t' σ2):rM fZ L H p μ s l t' σ'
 |nil {t' t2:Tm} {σ':Hp} (h4:∀i,eI 0 0 0 0 .bool [] (t' i) (t2 i)) (h:rM fZ L H p μ s l t2 σ'):rM fZ L H p μ s l t' σ'
inductive rN(R:Nat→Tm→Hp→(Ex→Tm→Hp→Prop)→Prop)(l:Nat)(Q:Ex→Tm→Hp→Prop):Tm→Hp→Prop where
 |fwd {t:Tm} {σ:Hp} (k:Nat) (h:Wk R k l t σ Q):rN R l Q t σ
 |loop {t:Tm} {σ:Hp} {S:Type} (fZ:S→Nat) (L:S→List (Nat×AV)) (H:S→Hp) (p:S→Prop) (μ:S→Nat) (s0:S) (h0:l=fZ s0∧p s0∧agree t (L s0)∧jh σ (H s0))
   (round:∀s g,p s→R (fZ s) (eN g (L s)) (H s) (fun e t' σ'=>match e with | .goto l'=>rM fZ L H p μ s l' t' σ' | e=>Q e t' σ')):rN R l Q t σ
 |cX {t t':Tm} {σ:Hp} (j b off len es:Nat) (cs:List AV) (e:Sh) (d:List e.T) (h1:σ[j]?=some (b,cs)) (h2:(cs.drop off).take (len*es)=d.flatMap e.cells) (h3:d.length=len∧e.size=es∧0<es) (h4:∀i,eI b off len es e d (t i) (t' i)) (h:rN R l Q t' (σ.eraseIdx j)):rN R l Q t σ
 |dN {t:Tm} {σ σ2:Hp} (h1:jh σ σ2) (h:rN R l Q t σ2):rN R l Q t σ
 |wrap {t:Tm} {σ:Hp} (k:Nat) (v:AV) (h1:t k=v) (h2:v.leaf=true) (h:rN R l Q (eN t [(k,.via v)]) σ):rN R l Q t σ
def Nv(l:Nat)(rd:AV)(dn:Ex→AV)(R1:Ex→Hp→Prop)(r:AV)(σ':Hp):Prop:=
 (r=.bool true∧∃σ2,σ'=(l,[rd])::σ2∧R1 .normal σ2)∨(r=.bool false∧∃e σ2,e≠.normal∧σ'=(l,[dn e])::σ2∧R1 e σ2)
def agG(l:Nat)(rd:AV)(dn:Ex→AV)(K:Ex→Hp→Prop)(_:AV)(σ':Hp):Prop:=
 (∃σ2,σ'=(l,[rd])::σ2∧K .normal σ2)∨(∃e σ2,e≠.normal∧σ'=(l,[dn e])::σ2∧K e σ2)
inductive A9(P:Program)(gf:FuncId)(cap:List AV)(m:Nat)(B:List AV→Hp→(Ex→Hp→Prop)→Prop)(K:Ex→Hp→Prop):Hp→Prop where
 |mk {σ:Hp} (go:∀(l:Nat) (rd:AV) (dn:Ex→AV),(∀(xs:List AV) (j9:Hp) (R1:Ex→Hp→Prop),xs.length=m→B xs j9 R1→HY P l xs ((l,[rd])::j9) (Nv l rd dn R1))→
   ACalls P gf (.fn (.yield l) [] []::cap) ((l,[rd])::σ) (agG l rd dn K)):A9 P gf cap m B K σ
 |dN {σ σ2:Hp} (h1:jh σ σ2) (h:A9 P gf cap m B K σ2):A9 P gf cap m B K σ
def BM:List Tmp→List AV→Tm→Tm
 |p::ps,x::xs,t=>BM ps xs (put t (some p) x)
 |_,_,t=>t
def codeF(rec:Code→Tm→Hp→(Ex→Tm→Hp→Prop)→Prop)(c:Code)(t:Tm)(σ:Hp)(Q:Ex→Tm→Hp→Prop):Prop:=
 match c with
 |.skip=>Q .normal t σ
 |.label _=>Q .normal t σ
 |.exit id=>Q (.exit id) t σ
 |.goto l=>Q (.goto l) t σ
 |.ret=>Q .ret t σ
 |.region _ ops draw=>match draw with
  |false=>WC P TT ops.toList ops.toList t σ (Q .normal)
  |true=>gz P TT ops.toList (Q .normal) t σ
 |.seq a b=>rec a t σ fun e t' σ'=>match e with | .normal=>rec b t' σ' Q | e=>Q e t' σ'
 |.cond c a b=>match ev t c with | .bool x=>(match x with | true=>rec a t σ Q | false=>rec b t σ Q) | _=>False
 |.block id c=>rec c t σ fun e t' σ'=>match e with
  |.exit i=>(match Nat.beq i id with | true=>Q .normal t' σ' | false=>Q (.exit i) t' σ')
  |e=>Q e t' σ'
 |.loop c=>mN (fun t σ Q=>rec c t σ Q) Q t σ
 |.scope c=>rec c t σ fun e t' σ'=>match e with
  |.goto l=>rN (fun l t σ Q=>match findLabel c l with | some r=>rec r t σ Q | none=>False) l Q t' σ'
  |e=>Q e t' σ'
 |.rangeFunc g ps assign body=>match ev t g with
  |.fn (.func gf) [] cap=>A9 P gf cap ps.size (fun xs j9 R1=>rec assign (BM ps.toList xs t) j9 fun e t' σ'=>match e with | .normal=>rec body t' σ' (fun e _ kr=>R1 e kr) | _=>False) (fun e σ'=>Q e t σ') σ
  |_=>False
 |_=>False
def mL(n:Nat):Code→Tm→Hp→(Ex→Tm→Hp→Prop)→Prop:=
 Nat.rec (motive:=fun _=>Code→Tm→Hp→(Ex→Tm→Hp→Prop)→Prop) (fun _ _ _ _=>False) (fun _ ih=>codeF P TT ih) n
end
def tX:List (Int×Int)→Int→Nat
 | [],_=>0
 |p::l,n=>if p.1=n then 0 else tX l n+1
theorem LL:∀(l:List (Int×Int)) (m i:Nat),(gk m l)[i]?=(l[i]?).map fun p=> { key:=.int .i64 p.1,val:=.int .i64 p.2,born:=m+i }
 | [],_,_=>by simp[gk]
 |p::l,m,0=>by simp[gk]
 |p::l,m,i+1=>by
  simp only[gk,List.getElem?_cons_succ]
  rw[LL l (m+1) i]
  simp[Nat.add_assoc,Nat.add_comm 1 i]
theorem KB(n:Int):∀(l:List (Int×Int)) (m i:Nat),Instr.findNow (.int .i64) (.int .i64 n) (gk m l) i=some ((getM l n).map fun v=>(i+tX l n,.int .i64 v))
 | [],_,_=>rfl
 |p::l,m,i=>by
  have ih:=KB n l (m+1) (i+1)
  unfold gk Instr.findNow
  simp only[Instr.sameNow,if_true]
  by_cases h:p.1=n
  ·rw[show (n == p.1)=true by simp[h]]
   simp[getM,tX,h]
  ·rw[show (n == p.1)=false by simp;exact fun e=>h e.symm]
   simp only[ih,getM,tX,ag h]
   congr 1
   cases getM l n with
   |none=>rfl
   |some v=>simp[Nat.add_assoc,Nat.add_comm 1]
theorem pos_at:∀(l:List (Int×Int)) (n v:Int),getM l n=some v→l[tX l n]?=some (n,v)∧∀x,rP l n x=l.set (tX l n) (n,x)
 | [],_,_,h=>by cases h
 |p::l,n,v,h=>by
  by_cases hp:p.1=n
  ·simp only[getM,ah hp,Option.some.injEq]at h
   simp only[tX,ah hp,rP]
   refine⟨?_,fun x=>rfl⟩
   rw[← hp,← h];rfl
  ·simp only[getM,ag hp]at h
   obtain⟨h1,h2⟩:=pos_at l n v h
   simp only[tX,ag hp,rP]
   exact⟨h1,fun x=>by rw[h2];rfl⟩
theorem T8:∀(l:List (Int×Int)) (n x:Int),getM l n=none→rP l n x=l++[(n,x)]
 | [],_,_,_=>rfl
 |p::l,n,x,h=>by
  by_cases hp:p.1=n
  ·simp only[getM,ah hp]at h;cases h
  ·simp only[getM,ag hp]at h
   simp only[rP,ag hp,T8 l n x h];rfl
theorem RF:∀(l:List (Int×Int)) (m:Nat) (p:Int×Int),gk m (l++[p])=gk m l++[{ key:=.int .i64 p.1,val:=.int .i64 p.2,born:=m+l.length }]
 | [],_,_=>rfl
 |q::l,m,p=>by
  simp only[FK,gk,RF l (m+1) p,gq]
  rw[show m+1+l.length=m+(l.length+1) by omega]
theorem SY:∀(l:List (Int×Int)) (m i:Nat) (p:Int×Int),gk m (l.set i p)=(gk m l).modify i fun e=> { e with key:=.int .i64 p.1,val:=.int .i64 p.2 }
 | [],_,_,_=>by simp[gk]
 |q::l,m,0,p=>by simp[gk]
 |q::l,m,i+1,p=>by simp[gk,SY l (m+1) i p]
section
variable {P:Program} {w:World} {t k e:TypeId} {b:Nat} {l:List (Int×Int)}
theorem X3(ht:P.underlying t=some (.map k e))(hk:P.underlying k=some (.int .i64)){z:Int}(hz:(zeroValue e).run P w=.ok (.int .i64 z) w)(hb:w.heap[b]?=some (.map (gk 0 l).toArray l.length))(n:Int)(c:Bool):
  (Instr.lookup t (.map (some b)) (.int .i64 n) c).run P w=.ok (if c then .tuple #[.int .i64 ((getM l n).getD z),.bool (getM l n).isSome] else .int .i64 ((getM l n).getD z)) w:=by
 have hf:=KB n l 0 0
 have Bz:MapKept.IsKey (.int .i64) (.int .i64 n):=by simp[MapKept.IsKey]
 cases h:getM l n with
 |none=>
  rw[h]at hf
  simp[Instr.lookup,run_underlying ht,MapKept.run_getObj_map hb,MapKept.run_checkKey hk Bz,MapKept.run_findKey hk hf,hz,Result.andThen]
 |some v=>
  rw[h]at hf
  simp[Instr.lookup,run_underlying ht,MapKept.run_getObj_map hb,MapKept.run_checkKey hk Bz,MapKept.run_findKey hk hf,Result.andThen]
theorem X2(ht:P.underlying t=some (.map k e))(hk:P.underlying k=some (.int .i64))(hb:w.heap[b]?=some (.map (gk 0 l).toArray l.length))(n x:Int):
  (Instr.mapUpdate t (.map (some b)) (.int .i64 n) (.int .i64 x)).run P w=.ok () { w with heap:=w.heap.setIfInBounds b (.map (gk 0 (rP l n x)).toArray (rP l n x).length) }:=by
 have hf:=KB n l 0 0
 have Bz:MapKept.IsKey (.int .i64) (.int .i64 n):=by simp[MapKept.IsKey]
 cases h:getM l n with
 |none=>
  rw[h]at hf
  rw[T8 l n x h,RF]
  simp[Instr.mapUpdate,run_underlying ht,MapKept.run_getObj_map hb,MapKept.run_checkKey hk Bz,MapKept.run_findKey hk hf,MapKept.run_setObj_map _ hb,Result.andThen]
 |some v=>
  rw[h]at hf
  obtain⟨h1,h2⟩:=pos_at l n v h
  rw[h2,SY]
  have hg:(gk 0 l)[tX l n]?=some { key:=.int .i64 n,val:=.int .i64 v,born:=0+tX l n }:=by rw[LL,h1];rfl
  simp[Instr.mapUpdate,run_underlying ht,MapKept.run_getObj_map hb,MapKept.run_checkKey hk Bz,MapKept.run_findKey hk hf,hg,MapKept.run_keyThatStays Bz,MapKept.run_setObj_map _ hb,Result.andThen]
end
end Go.Proofs.YtnikdflhefijbaaGreat
