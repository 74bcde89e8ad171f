import Derived.Below
import Derived.BigQuiet
import Derived.Carry
import Derived.ChangeOld
import Derived.Deep.OwnRows
import Derived.Deep.QuietTactic
import Derived.Deep.Slices
import Derived.Handy
import Derived.Maps.AppendAt
import Derived.OpenShut
import Derived.ProofKit
import Derived.ShutString
import Derived.Stop.IfaceNil
import Derived.Test.YtnpidbjdilnhlaaGreatRows
import Derived.WalkKit
import Derived.WalkLawsBesides
import Derived.WalkSpells
namespace Go.Proofs.YtnpidbjdilnhlaaGreat
open Go.RowKit
theorem qW{w:World}{k:Nat}{o:Obj}(h:w.heap[k]?=some o):k<w.heap.size:=(Array.getElem?_eq_some_iff.1 h).1
theorem Dr{w:World}{k i:Nat}{c:Array Value}{t:TypeId}{fz:Nat×Nat}(h:w.heap[k]?=some (.cells c t fz)):w.cell? ⟨k,i,none⟩=c[i]?:=by simp[World.cell?,h]
theorem tE(w:World)(o:Obj):(w.alloc o).heap[w.heap.size]?=some o:=heap_alloc_new w o
end Go.Proofs.YtnpidbjdilnhlaaGreat
namespace Go.Proofs.YtnpidbjdilnhlaaGreat
open Go.RowKit Go.ChangeShapes Go.WideShapes Go.ChangeAt Go.Deep
inductive Sh where
 | int (k:IntKind)
 | bool
 | str
 | slice (e:Sh)
 | nil
 | field (f r:Sh)
def Sh.size:Sh→Nat
 | .int _=>1
 | .bool=>1
 | .str=>1
 | .slice _=>1
 | .nil=>0
 | .field f r=>f.size+r.size
def Sh.T:Sh→Type
 | .int _=>Int
 | .bool=>Bool
 | .str=>ByteArray
 | .slice e=>List e.T
 | .nil=>Unit
 | .field f r=>f.T×r.T
def Sh.Jb:(s:Sh)→s.T
 | .int _=>(0:Int)
 | .bool=>false
 | .str=>ByteArray.empty
 | .slice _=>[]
 | .nil=>()
 | .field f r=>(f.Jb,r.Jb)
def sI(w:World)(b o:Nat)(cs:List Value):Prop:=∀j u,cs[j]?=some u→w.cell? ⟨b,o+j,none⟩=some u
def Reads(w:World):(s:Sh)→List Value→s.T→Prop
 | .int k,cs,(n:Int)=>cs=[.int k n]∧(Lit.int k n).wf=true
 | .bool,cs,(b:Bool)=>cs=[.bool b]
 | .str,cs,(s:ByteArray)=>cs=[.string s]∧s.size≤maxLen
 | .slice e,cs,(l:List e.T)=>∃(a:Option Addr) (c:Nat),cs=[.slice a l.length c]∧l.length≤c∧c≤maxLen∧(a=none→c=0)∧
   (l≠[]→∃b o,a=some ⟨b,o,none⟩∧∀i,(h:i<l.length)→∃cs',cs'.length=e.size∧sI w b (o+i*e.size) cs'∧Reads w e cs' l[i])
 | .nil,cs,_=>cs=[]
 | .field f r,cs,(d:f.T×r.T)=>∃c1 c2,cs=c1++c2∧c1.length=f.size∧Reads w f c1 d.1∧Reads w r c2 d.2
def Sh.fit(P:Program):Sh→Sum TypeId (List Field×Nat)→Bool
 | .int k,.inl t=>match P.underlying t with | some (.int k')=>decide (k=k') | _=>false
 | .bool,.inl t=>match P.underlying t with | some .bool=>true | _=>false
 | .str,.inl t=>match P.underlying t with | some .string=>true | _=>false
 | .slice e,.inl t=>match P.underlying t with | some (.slice e')=>e.fit P (.inl e') && decide (P.cellsOf e'=e.size) && decide (0<e.size) | _=>false
 | .nil,.inr ([],_)=>true
 | .nil,.inl t=>match P.underlying t with | some (.struct fs)=>fs.toList.isEmpty && decide (P.cellsOf t=0) | _=>false
 | .field f r,.inr (f0::fs,off)=>decide (f0.offset=off) && decide (P.cellsOf f0.type=f.size) && f.fit P (.inl f0.type) && r.fit P (.inr (fs,off+f.size))
 | .field f r,.inl t=>match P.underlying t with
  | some (.struct fs)=>match fs.toList with
   | f0::B3=>decide (P.cellsOf t=f.size+r.size) && (decide (f0.offset=0) && decide (P.cellsOf f0.type=f.size) && f.fit P (.inl f0.type) && r.fit P (.inr (B3,f.size)))
   | []=>false
  | _=>false
 | _,_=>false
theorem wm{a b:Bool}(h:(a && b)=true):a=true∧b=true:=by simpa using h
theorem sI.spot{w:World}{a:Addr}{n:Nat}{cs:List Value}(hn:0<n)(hl:cs.length=n)(h:∀i,i<n→w.cell? (a.add i)=cs[i]?):a.spot=none:=by
 have h0:=h 0 hn
 rw[List.getElem?_eq_getElem (by omega)]at h0
 exact World.cell?_spot h0
theorem V6{H:Type}{enc:TypeId×Value→H}{P:Program}{w:World}{base:Nat}{spare:Nat→Bool}{held:Bool}(s:Sh):
  (∀(t:TypeId) (fuel:Nat) (cs:List Value) (x:DataW H×List MemPlace),s.fit P (.inl t)=true→DataW.trod enc P w base spare held fuel t cs=some x→cs.length=s.size∧∃d,Reads w s cs d)∧
  (∀(fs:List Field) (off n:Nat) (cs:List Value),s.fit P (.inr (fs,off))=true→cs.length=off+s.size→
   (∀(i:Nat) (f:Field),fs[i]?=some f→∃x,DataW.trod enc P w base spare held n f.type ((cs.drop f.offset).take (P.cellsOf f.type))=some x)→∃d,Reads w s (cs.drop off) d):=by
 induction s with
 | int k =>
  refine⟨fun t fuel cs x hf h =>?_,fun fs off n cs hf=>by simp[Sh.fit]at hf⟩
  unfold Sh.fit at hf
  split at hf
  ·rename_i k' hk
   have:=of_decide_eq_true hf
   subst this
   obtain⟨n,rfl,_,hw⟩:=DataW.trod_int hk h
   exact⟨rfl,n,rfl,hw⟩
  ·cases hf
 | bool =>
  refine⟨fun t fuel cs x hf h =>?_,fun fs off n cs hf=>by simp[Sh.fit]at hf⟩
  unfold Sh.fit at hf
  split at hf
  ·rename_i hk
   obtain⟨b,rfl,_⟩:=DataW.trod_bool hk h
   exact⟨rfl,b,rfl⟩
  ·cases hf
 | str =>
  refine⟨fun t fuel cs x hf h =>?_,fun fs off n cs hf=>by simp[Sh.fit]at hf⟩
  unfold Sh.fit at hf
  split at hf
  ·rename_i hk
   obtain⟨b,rfl,_,hb⟩:=DataW.trod_string hk h
   exact⟨rfl,b,rfl,hb⟩
  ·cases hf
 | slice e ih =>
  refine⟨fun t fuel cs x hf h =>?_,fun fs off n cs hf=>by simp[Sh.fit]at hf⟩
  unfold Sh.fit at hf
  split at hf
  ·rename_i e' hk
   obtain⟨gq,h0⟩:=wm hf
   obtain⟨sV,dz⟩:=wm gq
   have dz:=of_decide_eq_true dz
   have h0:=of_decide_eq_true h0
   rcases open_slice hk h with ⟨rfl,_⟩ | ⟨a,len,cap,m,n,D,Pl,rfl,hb,hl,hm,hmm,_,hi⟩
   ·exact⟨rfl,[],none,0,rfl,Nat.le_refl _,by simp,fun _=>rfl,fun aI=>absurd rfl aI⟩
   ·have hlm:len≤m:=by rw[hmm];split <;> omega
    have hel:∀i,i<len→∃(y:List Value×e.T),y.1.length=e.size∧w.cells? base (a.add (i*e.size)) e.size=some y.1∧Reads w e y.1 y.2:=by
     intro i qp
     obtain⟨cs',h1,h2⟩:=hi i (by omega)
     obtain⟨h3,d,h4⟩:=ih.1 e' n cs' _ sV h2
     rw[dz]at h1
     exact⟨(cs',d),h3,h1,h4⟩
    obtain⟨V,hV⟩:= @choose_lt _ ⟨([],e.Jb)⟩ _ _ hel
    refine⟨rfl,(List.range len).map (fun i=>(V i).2),some a,cap,by simp,by simpa using hl,hm,(fun e=>by cases e),fun aI =>?_⟩
    have rh:0<len:=by
     rcases Nat.eq_zero_or_pos len with h | h
     ·subst h;exact absurd rfl aI
     ·exact h
    obtain⟨b,o,spot⟩:=a
    have ab1:spot=none:=by
     obtain⟨q1,q2,_⟩:=hV 0 rh
     obtain⟨_,q4,q5⟩:=World.cells?_some q2
     have:=sI.spot (a:=(⟨b,o,spot⟩:Addr).add (0*e.size)) h0 q4 q5
     unfold Addr.add at this
     split at this <;> simp_all
    subst ab1
    refine⟨b,o,rfl,fun i hi =>?_⟩
    have eg:i<len:=by simpa using hi
    obtain⟨q1,q2,q3⟩:=hV i eg
    obtain⟨_,q4,q5⟩:=World.cells?_some q2
    refine⟨(V i).1,q1,fun j u hu =>?_,by simpa using q3⟩
    have hj:j<e.size:=by have:=(List.getElem?_eq_some_iff.1 hu).1;omega
    have:=q5 j hj
    rw[Addr.add_lit,Addr.add_lit]at this
    rw[this,hu]
  ·cases hf
 | nil =>
  refine⟨fun t fuel cs x hf h =>?_,fun fs off n cs hf hl _ =>?_⟩
  ·unfold Sh.fit at hf
   split at hf
   ·rename_i fs hk
    obtain⟨_,hz⟩:=wm hf
    have hz:=of_decide_eq_true hz
    obtain⟨xs,n,_,_,hlen,_⟩:=DataW.trod_struct hk h
    have:cs=[]:=List.length_eq_zero_iff.1 (by omega)
    exact⟨by simp[this,Sh.size],(),this⟩
   ·cases hf
  ·exact⟨(),List.drop_eq_nil_of_le (by simp[Sh.size]at hl;omega)⟩
 | field f r oh ij =>
  have key:∀(f0:Field) (fs:List Field) (off n:Nat) (cs:List Value),
    (decide (f0.offset=off) && decide (P.cellsOf f0.type=f.size) && f.fit P (.inl f0.type) && r.fit P (.inr (fs,off+f.size)))=true→cs.length=off+(f.size+r.size)→
    (∀(i:Nat) (g:Field),(f0::fs)[i]?=some g→∃x,DataW.trod enc P w base spare held n g.type ((cs.drop g.offset).take (P.cellsOf g.type))=some x)→∃d,Reads w (.field f r) (cs.drop off) d:=by
   intro f0 fs off n cs hf hl hx
   obtain⟨gq,hr⟩:=wm hf
   obtain⟨sV,hff⟩:=wm gq
   obtain⟨ho,hc⟩:=wm sV
   have ho:=of_decide_eq_true ho
   have hc:=of_decide_eq_true hc
   obtain⟨x,yD⟩:=hx 0 f0 rfl
   obtain⟨uG,d1,yP⟩:=oh.1 _ _ _ _ hff yD
   obtain⟨d2,ou⟩:=ij.2 fs (off+f.size) n cs hr (by omega) (fun i g hg=>hx (i+1) g (by simpa using hg))
   refine⟨(d1,d2),(cs.drop f0.offset).take (P.cellsOf f0.type),cs.drop (off+f.size),?_,uG,yP,ou⟩
   rw[ho,hc,← List.drop_drop,List.take_append_drop]
  refine⟨fun t fuel cs x hf h =>?_,fun fs off n cs hf hl hx =>?_⟩
  ·unfold Sh.fit at hf
   split at hf
   ·rename_i fs hk
    split at hf
    ·rename_i f0 B3 wN
     obtain⟨hz,hf'⟩:=wm hf
     have hz:=of_decide_eq_true hz
     obtain⟨xs,n,_,_,hlen,JB,hg⟩:=DataW.trod_struct hk h
     have hl:cs.length=0+(f.size+r.size):=by omega
     obtain⟨d,hd⟩:=key f0 B3 0 n cs (by simpa using hf') hl (fun i g hig=>by
      have hi:fs[i]?=some g:=by rw[← Array.getElem?_toList,wN];exact hig
      have:=hg i g hi
      have wL:i<xs.length:=by rw[JB];exact (Array.getElem?_eq_some_iff.1 hi).1
      exact⟨xs[i],by rw[this];exact List.getElem?_eq_getElem wL⟩)
     exact⟨by simpa [Sh.size]using hl,d,by simpa using hd⟩
    ·cases hf
   ·cases hf
  ·cases fs with
   | nil=>simp[Sh.fit]at hf
   | cons f0 B3=>exact key f0 B3 off n cs (by simpa [Sh.fit]using hf) (by simpa [Sh.size]using hl) hx
theorem Ma{H:Type}{enc:TypeId×Value→H}{P:Program}{w:World}{base:Nat}{spare:Nat→Bool}{held:Bool}{t:TypeId}{v:Value}{d:DataW H}{p:List MemPlace}(s:Sh)(hs:s.fit P (.inl t)=true)
  (h:DataW.Trod enc P w base spare held t v d p):∃x:s.T,Reads w s v.cells.toList x:=by
 obtain⟨fuel,hf⟩:=h
 exact ((V6 s).1 t fuel _ _ hs hf).2
theorem wf_u64{n:Int}(h:(Lit.int .u64 n).wf=true):0≤n∧n<18446744073709551616:=by
 have:=bounds_u64 h
 omega
inductive AV where
 | int (k:IntKind) (n:Int)
 | bool (b:Bool)
 | str (s:ByteArray)
 | ah (e:Sh) (l:List e.T)
 | iV
 | ft
 | af
 | ae (b off len e:Nat)
 | bX
 | ptr (b off:Nat)
 | eQ (cs:List AV)
 | agg (cs:List AV)
 | tup (vs:List AV)
 | iface (t:TypeId) (v:AV)
 | nilif
 | fn (f:Fn) (first cap:List AV)
 | gk
 | nf
 | e8 (n:Int)
 | eM (n m:Int)
 | any
 | via (v:AV)
 | lA (b:Nat)
 | l9 (l:List (Int×Int))
 | lI (b:Nat)
 | pS (m c:Nat) (seen:List Nat)
 | kA (L:Loop) (t:Nat→AV)
abbrev Hp:Type:=List (Nat×List AV)
abbrev Tm:Type:=Nat→AV
def Sh.cells:(s:Sh)→s.T→List AV
 | .int k,(n:Int)=>[.int k n]
 | .bool,(b:Bool)=>[.bool b]
 | .str,(s:ByteArray)=>[.str s]
 | .slice e,(l:List e.T)=>[.ah e l]
 | .nil,_=>[]
 | .field f r,(d:f.T×r.T)=>f.cells d.1++r.cells d.2
def AV.leaf:AV→Bool
 | .agg _ | .tup _ | .any | .l9 _ | .pS _ _ _ | .kA _ _=>false
 | _=>true
def AV.cells?:AV→Option (List AV)
 | .agg cs=>some cs
 | .tup _ | .any | .l9 _ | .pS _ _ _ | .kA _ _=>none
 | v=>some [v]
inductive TK where
 | int (k:IntKind) | bool | str | slice (e:TypeId) | ptr (e:TypeId) | aP (fs:List (Nat×TypeId)) | arr (n:Nat) (e:TypeId) | iface | func | map (k e:TypeId) | e8 | eM | other
structure TI where
 k:TK
 size:Nat
 bytes:Nat
 zero:List AV
def TI.wide(i:TI):Bool:=match i.k with | .aP _ | .arr _ _=>true | _=>false
def xG:Value→AV
 | .int k n=>.int k n
 | .bool b=>.bool b
 | .string s=>.str s
 | .pointer none=>.bX
 | .slice none 0 0=>.af
 | .nilIface=>.nilif
 | .nilFunc=>.gk
 | .map none=>.nf
 | _=>.any
def Qc:Value→AV
 | .agg cs=>match (cs.toList.map xG).all AV.leaf with | true=>.agg (cs.toList.map xG) | false=>.any
 | .tuple vs=>match vs.toList with | []=>.tup [] | _=>.any
 | v=>xG v
def ev(t:Tm):Operand→AV
 | .tmp i=>t i
 | .const v=>Qc v
 | .global _=>.any
 | .func f=>.fn (.func f) [] []
def put(t:Tm)(d:Option Tmp)(v:AV):Tm:=
 match d with
 | none=>t
 | some d=>fun i=>match Nat.beq i d with | true=>v | false=>t i
def AM(b:Bool)(A B:Prop):Prop:=match b with | true=>A | false=>B
theorem dx{b:Bool}{A B:Prop}(h1:b=true→A)(h2:b=false→B):AM b A B:=by cases b;exact h2 rfl;exact h1 rfl
theorem ao{p:Prop}[Decidable p]{A B:Prop}(h1:p→A)(h2:¬p→B):AM (decide p) A B:=by
 by_cases h:p
 ·simp only[h,decide_true];exact h1 h
 ·simp only[h,decide_false];exact h2 h
theorem Gf{b:Bool}{A B:Prop}(h:b=true)(h1:A):AM b A B:=by subst h;exact h1
theorem Sz{b:Bool}{A B:Prop}(h:b=false)(h1:B):AM b A B:=by subst h;exact h1
def strict(v:AV)(K:AV→Prop):Prop:=
 match v with
 | .int k n=>K (.int k n)
 | .bool b=>K (.bool b)
 | .str s=>K (.str s)
 | .ah e l=>K (.ah e l)
 | .iV=>K .iV
 | .ft=>K .ft
 | .af=>K .af
 | .ae b o l e=>K (.ae b o l e)
 | .bX=>K .bX
 | .ptr b o=>K (.ptr b o)
 | .eQ cs=>K (.eQ cs)
 | .agg cs=>K (.agg cs)
 | .tup vs=>K (.tup vs)
 | .iface t v=>K (.iface t v)
 | .nilif=>K .nilif
 | .fn f a c=>K (.fn f a c)
 | .gk=>K .gk
 | .nf=>K .nf
 | .e8 n=>K (.e8 n)
 | .eM n m=>K (.eM n m)
 | .any=>K .any
 | .via v=>K (.via v)
 | .lA b=>K (.lA b)
 | .l9 l=>K (.l9 l)
 | .lI b=>K (.lI b)
 | .pS m c s=>K (.pS m c s)
 | .kA L t=>K (.kA L t)
theorem vh(v:AV)(K:AV→Prop):strict v K=K v:=by cases v <;> rfl
def bc:AV→AV
 | .via v=>v
 | v=>v
structure ag(p:Prop)(X:Prop):Prop where
 fact:p
 go:X
def cY(i:TI)(cs:List AV)(off:Nat):Option AV:=
 match i.wide with
 | true=>match Nat.ble (off+i.size) cs.length with | true=>some (.agg ((cs.drop off).take i.size)) | false=>none
 | false=>cs[off]?
def eF(cs:List AV)(off:Nat):List AV→List AV
 | []=>cs
 | v::r=>eF (cs.set off v) (off+1) r
def jq(i:TI)(cs:List AV)(off:Nat)(v:AV):Option (List AV):=
 match v.cells? with
 | some vs=>match Nat.beq vs.length i.size,Nat.ble (off+i.size) cs.length with | true,true=>some (eF cs off vs) | _,_=>none
 | none=>none
inductive dJ(i:TI)(σ:Hp)(b o:Nat)(K:AV→Prop):Prop where
 | mk (j:Nat) (cs:List AV) (v:AV) (h1:σ[j]?=some (b,cs)) (h2:cY i cs o=some v) (go:K v)
inductive Du(i:TI)(σ:Hp)(b o:Nat)(v:AV)(K:Hp→Prop):Prop where
 | mk (j:Nat) (cs cs':List AV) (h1:σ[j]?=some (b,cs)) (h2:jq i cs o v=some cs') (go:K (σ.set j (b,cs')))
theorem aL{i:TI}{σ:Hp}{b o:Nat}{K:AV→Prop}(j:Nat){cs:List AV}{v:AV}(h1:σ[j]?=some (b,cs))(h2:cY i cs o=some v)(go:K v):dJ i σ b o K:=.mk j cs v h1 h2 go
theorem cd{i:TI}{σ:Hp}{b o:Nat}{v:AV}{K:Hp→Prop}(j:Nat){cs cs':List AV}(h1:σ[j]?=some (b,cs))(h2:jq i cs o v=some cs')(go:K (σ.set j (b,cs'))):Du i σ b o v K:=.mk j cs cs' h1 h2 go
theorem aa{i:TI}{σ:Hp}{b o:Nat}{K:AV→Prop}(j:Nat){cs:List AV}{v:AV}(go:K v)(h1:σ[j]?=some (b,cs):=by exact rfl)(h2:cY i cs o=some v:=by exact rfl):dJ i σ b o K:=.mk j cs v h1 h2 go
theorem ai{i:TI}{σ:Hp}{b o:Nat}{v:AV}{K:Hp→Prop}(j:Nat){cs cs':List AV}(go:K (σ.set j (b,cs')))(h1:σ[j]?=some (b,cs):=by exact rfl)(h2:jq i cs o v=some cs':=by exact rfl):Du i σ b o v K:=.mk j cs cs' h1 h2 go
inductive bH{α:Type}(l:List α)(n:Int)(K:α→Prop):Prop where
 | mk (x:α) (h0:0≤n) (h1:l[n.toNat]?=some x) (go:K x)
def pP(Pm:List (Nat×Nat))(cs:List AV):List (Nat×AV)→Option (List AV)
 | []=>some cs
 | (i,v)::r=>match Pm[i]?,v.cells? with
  | some (off,size),some vs=>match Nat.beq vs.length size,Nat.ble (off+size) cs.length with | true,true=>pP Pm (eF cs off vs) r | _,_=>none
  | _,_=>none
def bU(z:List AV):Nat→List AV
 | 0=>[]
 | n+1=>z++bU z n
section
variable (P:Program) (TT:TypeId→Option TI)
def zU:List (Nat×TypeId)→Option (List (Nat×Nat))
 | []=>some []
 | (off,t)::r=>match TT t,zU r with | some i,some ps=>some ((off,i.size)::ps) | _,_=>none
def DP(t:TypeId)(parts:List (Nat×AV)):Option AV:=
 match TT t with
 | some ⟨.aP fs,_,_,z⟩=>match zU TT fs with | some ps=>(pP ps z parts).map .agg | none=>none
 | some ⟨.arr n e,_,_,z⟩=>match TT e with | some i=>(pP ((List.range n).map fun j=>(j*i.size,i.size)) z parts).map .agg | none=>none
 | _=>none
def nO(i:TI)(a:AV)(σ:Hp)(K:AV→Prop):Prop:=
 match a with
 | .eQ cs=>match cY i cs 0 with | some v=>K v | none=>False
 | .ptr b o=>dJ i σ b o K
 | _=>False
def mh(b:Bool)(K:AV→Prop):Prop:=AM b (K (.bool true)) (K (.bool false))
def xQ(k:TK)(want:Bool)(x y:AV)(K:AV→Prop):Prop:=
 match k,x,y with
 | .ptr _,.bX,.bX=>K (.bool want)
 | .ptr _,.ptr _ _,.bX=>K (.bool !want)
 | .ptr _,.eQ _,.bX=>K (.bool !want)
 | .slice _,.af,.af=>K (.bool want)
 | .slice _,.ae _ _ _ _,.af=>K (.bool !want)
 | .slice _,.ft,.af=>K (.bool !want)
 | .slice _,.ah _ l,.af=>ag (0<l.length) (K (.bool !want))
 | .iface,.nilif,.nilif=>K (.bool want)
 | .iface,.iface _ _,.nilif=>K (.bool !want)
 | .func,.gk,.gk=>K (.bool want)
 | .func,.fn _ _ _,.gk=>K (.bool !want)
 | _,_,_=>False
def Ox:Operand→Bool
 | .const _=>true
 | _=>false
def Ev(op:BinOp)(k:IntKind)(a b:Int)(K:AV→Prop):Prop:=
 match op with
 | .add=>K (.int k (k.wrap (a+b)))
 | .sub=>K (.int k (k.wrap (a-b)))
 | .mul=>K (.int k (k.wrap (a*b)))
 | .quo=>ag (b≠0) (K (.int k (k.wrap (a.tdiv b))))
 | .rem=>ag (b≠0) (K (.int k (a.tmod b)))
 | .and | .or | .xor | .andNot=>K (.int k (bits op k a b))
 | .eql=>mh (decide (a=b)) K
 | .neq=>mh (!decide (a=b)) K
 | .lss=>mh (decide (a<b)) K
 | .leq=>mh (decide (a≤b)) K
 | .gtr=>mh (decide (b<a)) K
 | .geq=>mh (decide (b≤a)) K
 | _=>False
def Dy(op:BinOp)(k:IntKind)(a b:Int)(K:AV→Prop):Prop:=
 match op with
 | .shl=>ag (0≤b) (K (.int k (k.wrap (a*2 ^ (min b.toNat k.bits)))))
 | .shr=>ag (0≤b) (K (.int k (a.fdiv (2 ^ (min b.toNat k.bits)))))
 | _=>False
def Bi(op:BinOp)(t:TypeId)(y0:Operand)(x y:AV)(K:AV→Prop):Prop:=
 match x,y with
 | .int k a,.int k' b=>match op with
  | .shl | .shr=>Dy op k a b K
  | _=>match decide (k=k') with | true=>Ev op k a b K | false=>False
 | .bool a,.bool b=>match TT t with
  | some ⟨.bool,_,_,_⟩=>(match op with | .eql=>mh (a == b) K | .neq=>mh (!(a == b)) K | _=>False)
  | _=>False
 | .str a,.str b=>match op with | .eql=>mh (a.toList == b.toList) K | .neq=>mh (!(a.toList == b.toList)) K | _=>False
 | x,y=>match Ox y0,TT t with
  | true,some i=>(match op with | .eql=>xQ i.k true x y K | .neq=>xQ i.k false x y K | _=>False)
  | _,_=>False
def Z7:AV→AV→Bool
 | .int _ a,.int _ b=>decide (a=b)
 | .bool a,.bool b=>a == b
 | .str a,.str b=>a.toList == b.toList
 | _,_=>false
def qV(xs ys:List AV):List Bool:=List.zipWith Z7 xs ys
def eA(l:List Bool):Bool:=l.all id
def EG(TT:TypeId→Option TI)(rec:TypeId→AV→AV→Option (List Bool))(xs ys:List AV):List Field→Option (List Bool)
 | []=>some []
 | f :: fs => match f.name == "_", TT f.type with
  | false,some i=>match cY i xs f.offset,cY i ys f.offset with
   | some a,some b=>match rec f.type a b,EG TT rec xs ys fs with | some l,some l'=>some (l++l') | _,_=>none
   | _,_=>none
  | _,_=>none
def EF(TT:TypeId→Option TI)(rec:TypeId→AV→AV→Option (List Bool))(e:TypeId)(c:Nat)(xs ys:List AV):List Nat→Option (List Bool)
 | []=>some []
 | k::ks=>match TT e with
  | some i=>match cY i xs (k*c),cY i ys (k*c) with
   | some a,some b=>match rec e a b,EF TT rec e c xs ys ks with | some l,some l'=>some (l++l') | _,_=>none
   | _,_=>none
  | none=>none
def wT(P:Program)(TT:TypeId→Option TI):Nat→TypeId→AV→AV→Option (List Bool)
 | 0,_,_,_=>none
 | d+1,t,x,y=>match P.underlying t,x,y with
  | some .bool,.bool a,.bool b=>some [a == b]
  | some (.int _),.int k a,.int k' b=>(match decide (k=k') with | true=>some [decide (a=b)] | false=>none)
  | some .string,.str a,.str b=>some [a.toList == b.toList]
  | some (.struct fs),.agg xs,.agg ys=>(match P.stoodInHeld t with | true=>none | false=>EG TT (wT P TT d) xs ys fs.toList)
  | some (.array n e),.agg xs,.agg ys=>(match TT e with | some _=>EF TT (wT P TT d) e (P.cellsOf e) xs ys (List.range n) | none=>none)
  | _,_,_=>none
inductive EqAt(P:Program)(TT:TypeId→Option TI)(t:TypeId)(xs ys:List AV)(K:Bool→Prop):Prop where
 | mk (h1:P.eqGuardType P.depth t=false) (h2:wT P TT 8 t (.agg xs) (.agg ys)=some (qV xs ys)) (go:K (eA (qV xs ys))):EqAt P TT t xs ys K
def fO(n:Int):Prop:=n.natAbs<9007199254740992
def Jc(op:BinOp)(a b c d:Int)(K:AV→Prop):Prop:=
 match op with
 | .add=>ag (fO (a+c)∧fO (b+d)) (K (.eM (a+c) (b+d)))
 | .sub=>ag (fO (a-c)∧fO (b-d)) (K (.eM (a-c) (b-d)))
 | .mul=>ag ((fO (a*c)∧fO (b*d)∧fO (a*c-b*d))∧fO (a*d)∧fO (b*c)∧fO (a*d+b*c)) (K (.eM (a*c-b*d) (a*d+b*c)))
 | _=>False
def AI(x y:AV)(K:AV→Prop):Prop:=match x,y with | .e8 a,.e8 b=>K (.eM a b) | _,_=>False
def As(x:AV)(K:AV→Prop):Prop:=match x with | .eM a _=>K (.e8 a) | _=>False
def Ay(x:AV)(K:AV→Prop):Prop:=match x with | .eM _ b=>K (.e8 b) | _=>False
def Bj(P:Program)(TT:TypeId→Option TI)(op:BinOp)(t:TypeId)(y0:Operand)(x y:AV)(K:AV→Prop):Prop:=
 match x,y with
 | .agg xs,.agg ys=>match op with
  | .eql=>EqAt P TT t xs ys fun b=>mh b K
  | .neq=>EqAt P TT t xs ys fun b=>mh (!b) K
  | _=>False
 | .eM a b,.eM c d=>Jc op a b c d K
 | x,y=>Bi TT op t y0 x y K
def Bp(op:UnOp)(x:AV)(K:AV→Prop):Prop:=
 match op,x with
 | .not,.bool b=>K (.bool !b)
 | .neg,.int k n=>K (.int k (k.wrap (0-n)))
 | .xor,.int k n=>K (.int k (bits .xor k (if k.signed then -1 else k.max) n))
 | .neg,.e8 n=>K (.e8 (-n))
 | _,_=>False
def AJ(s d:TypeId)(x:AV)(K:AV→Prop):Prop:=
 match TT s,TT d,x with
 | some _,some ⟨.int k,_,_,_⟩,.int _ n=>K (.int k (k.wrap n))
 | some _,some ⟨.e8,_,_,_⟩,.int _ n=>ag (fO n) (K (.e8 n))
 | some _,some ⟨.int k,_,_,_⟩,.e8 n=>ag (k.min≤n∧n≤k.max) (K (.int k n))
 | _,_,_=>False
def qR:Option AV→Option Int
 | none=>some 0
 | some (.int _ n)=>some n
 | _=>none
def xW(len:Nat):Option AV→Option Int
 | none=>some len
 | some (.int _ n)=>some n
 | _=>none
def xE(t:TypeId)(x:AV)(lo hi mx:Option AV)(K:AV→Prop):Prop:=
 match TT t,mx with
 | some ⟨.slice e,_,_,_⟩,none=>match TT e,x with
  | some i,.ae b off len es=>match qR lo,xW len hi with
   | some l,some h=>ag (0≤l∧l≤h∧h≤len∧i.size=es) (K (.ae b (off+l.toNat*es) (h.toNat-l.toNat) es))
   | _,_=>False
  | some i,.ah s xs=>match qR lo,xW xs.length hi with
   | some l,some h=>ag (0≤l∧l≤h∧h≤xs.length∧i.size=s.size) (K (.ah s ((xs.drop l.toNat).take (h.toNat-l.toNat))))
   | _,_=>False
  | some _,.af=>match qR lo,xW 0 hi with
   | some l,some h=>ag (0≤l∧l≤h∧h≤(0:Nat)) (K .af)
   | _,_=>False
  | _,_=>False
 | some ⟨.slice e,_,_,_⟩,some (.int _ m)=>match TT e,x,hi with
  | some i,.ae b off len es,some (.int _ h)=>match qR lo with
   | some l=>ag (0≤l∧l≤h∧h≤m∧m≤len∧i.size=es) (K (.ae b (off+l.toNat*es) (h.toNat-l.toNat) es))
   | _=>False
  | _,_,_=>False
 | _,_=>False
def y9(t:TypeId)(x ix:AV)(K:AV→Prop):Prop:=
 match TT t,ix with
 | some ⟨.slice e,_,_,_⟩,.int _ n=>match TT e,x with
  | some i,.ah s l=>ag (i.size=s.size) (bH l n fun d=>K (.eQ (s.cells d)))
  | some i,.ae b off len es=>ag (i.size=es∧0≤n∧n<len) (K (.ptr b (off+n.toNat*es)))
  | _,_=>False
 | some ⟨.arr m e,_,_,_⟩,.int _ n=>match TT e,x with
  | some i,.ptr b o=>ag (0≤n∧n<m) (K (.ptr b (o+n.toNat*i.size)))
  | some i,.eQ cs=>ag (0≤n∧n<m) (K (.eQ (cs.drop (n.toNat*i.size))))
  | _,_=>False
 | _,_=>False
def getM:List (Int×Int)→Int→Option Int
 | [],_=>none
 | p::l,n=>if p.1=n then some p.2 else getM l n
def o7:List (Int×Int)→Int→Int→List (Int×Int)
 | [],n,x=>[(n,x)]
 | p::l,n,x=>if p.1=n then (n,x)::l else p::o7 l n x
inductive Em(σ:Hp)(m:AV)(K:Nat→Nat→List (Int×Int)→Prop):Prop where
 | mk (j b:Nat) (l:List (Int×Int)) (hm:m=.lA b) (h1:σ[j]?=some (b,[.l9 l])) (go:K j b l):Em σ m K
def yf(t:TypeId):Option Int:=match TT t with
 | some ⟨.map k e,_,_,_⟩=>(match TT k,TT e with | some ⟨.int .i64,_,_,_⟩,some ⟨.int .i64,_,_,[.int .i64 z]⟩=>some z | _,_=>none)
 | _=>none
def zZ(t:TypeId)(m k:AV)(c:Bool)(σ:Hp)(K:AV→Prop):Prop:=
 match yf TT t,k with
 | some z,.int .i64 n=>Em σ m fun _ _ l=>(match c with | true=>K (.tup [.int .i64 ((getM l n).getD z),.bool (getM l n).isSome]) | false=>K (.int .i64 ((getM l n).getD z)))
 | _,_=>False
def zc(s:TypeId)(x:AV)(f:Nat)(K:AV→Prop):Prop:=
 match TT s with
 | some ⟨.aP fs,_,_,_⟩=>match fs[f]? with
  | some (off,t)=>match TT t with
   | some i=>match Nat.blt 0 i.size,x with
    | true,.ptr b o=>K (.ptr b (o+off))
    | true,.eQ cs=>K (.eQ (cs.drop off))
    | _,_=>False
   | none=>False
  | none=>False
 | _=>False
def Al(s:TypeId)(x:AV)(f:Nat)(K:AV→Prop):Prop:=
 match TT s,x with
 | some ⟨.aP fs,_,_,_⟩,.agg cs=>match fs[f]? with
  | some (off,t)=>match TT t with | some i=>(match cY i cs off with | some v=>K v | none=>False) | none=>False
  | none=>False
 | _,_=>False
def A4(k:TK)(x:AV)(K:AV→Prop):Prop:=
 match k,x with
 | .slice _,.ah _ l=>K (.int .i64 l.length)
 | .slice _,.ae _ _ len _=>K (.int .i64 len)
 | .slice _,.af=>K (.int .i64 0)
 | .slice _,.iV=>K (.int .i64 0)
 | .slice _,.ft=>K (.int .i64 0)
 | _,_=>False
def Bh(k:TK)(x:AV)(K:AV→Prop):Prop:=
 match k,x with
 | .slice _,.af=>K (.int .i64 0)
 | .slice _,.iV=>K (.int .i64 0)
 | _,_=>False
def A0(xs:List AV)(K:AV→Prop):Prop:=
 match xs with
 | [.int k a,.int k' b]=>match decide (k=k') with | true=>K (.int k (if b<a then b else a)) | false=>False
 | _=>False
def A1(xs:List AV)(K:AV→Prop):Prop:=
 match xs with
 | [.int k a,.int k' b]=>match decide (k=k') with | true=>K (.int k (if a<b then b else a)) | false=>False
 | _=>False
def AheadOk(t:TypeId)(m:String):Prop:=∀(a:Addr) (w:World),(nilAhead (P.types.size+Made.depth) t (.pointer (some a)) m).run P w=.ok (some false) w
inductive dS(t:TypeId)(m:String)(X:Prop):Prop where
 | mk (h:AheadOk P t m) (go:X):dS t m X
def eB(op:Op)(ρ:Operand→AV)(σ:Hp)(K:AV→Prop):Prop:=
 match op with
 | .move x | .assign x=>strict (ρ x) K
 | .pick c a b=>match ρ c with | .bool x=>(match x with | true=>strict (ρ a) K | false=>strict (ρ b) K) | _=>False
 | .build t parts=>match DP TT t (parts.toList.map fun p=>(p.1,ρ p.2)) with | some v=>K v | none=>False
 | .load t a=>match TT t with | some i=>nO i (ρ a) σ K | none=>False
 | .nilCheck x=>match ρ x with | .ptr b o=>K (.ptr b o) | .eQ cs=>K (.eQ cs) | .fn (.func f) a c=>K (.fn (.func f) a c) | .fn (.method m) [.iface t (.ptr b o)] c=>dS P t m (K (.fn (.method m) [.iface t (.ptr b o)] c)) | .iface t v=>K (.iface t v) | _=>False
 | .binOp op t x y _=>Bj P TT op t y (bc (ρ x)) (bc (ρ y)) K
 | .unOp op _ x=>Bp op (ρ x) K
 | .convert s d x=>AJ TT s d (ρ x) K
 | .makeInterface t x=>match TT t with | some ⟨.iface,_,_,_⟩=>False | some _=>K (.iface t (ρ x)) | none=>False
 | .makeFunc f first cap=>K (.fn f (first.toList.map ρ) (cap.toList.map ρ))
 | .slice t x lo hi mx=>xE TT t (bc (ρ x)) (lo.map fun x=>bc (ρ x)) (hi.map fun x=>bc (ρ x)) (mx.map fun x=>bc (ρ x)) K
 | .fieldAddr s x f=>zc TT s (ρ x) f K
 | .field s x f=>Al TT s (ρ x) f K
 | .indexAddr t x ix=>y9 TT t (bc (ρ x)) (bc (ρ ix)) K
 | .typeAssert x _ t ok=>match ok,TT t,ρ x with
  | true,some ⟨.ptr _,_,_,[.bX]⟩,.iface t' v=>(match Nat.beq t' t with | true=>K (.tup [v,.bool true]) | false=>K (.tup [.bX,.bool false]))
  | true,some ⟨.ptr _,_,_,[.bX]⟩,.nilif=>K (.tup [.bX,.bool false])
  | _,_,_=>False
 | .lookup t m k c=>zZ TT t (bc (ρ m)) (bc (ρ k)) c σ K
 | .extract x i=>match ρ x with | .tup vs=>(match vs[i]? with | some v=>K v | none=>False) | _=>False
 | .call ⟨.builtin .len,args,bJ⟩=>match args.toList,bJ.toList with | [x],[t]=>(match TT t with | some i=>A4 i.k (bc (ρ x)) K | none=>False) | _,_=>False
 | .call ⟨.builtin .min,args,_⟩=>match args.toList with | [x,y]=>A0 [ρ x,ρ y] K | _=>False
 | .call ⟨.builtin .max,args,_⟩=>match args.toList with | [x,y]=>A1 [ρ x,ρ y] K | _=>False
 | .call ⟨.builtin .complex,args,_⟩=>match args.toList with | [x,y]=>AI (ρ x) (ρ y) K | _=>False
 | .call ⟨.builtin .real,args,_⟩=>match args.toList with | [x]=>As (ρ x) K | _=>False
 | .call ⟨.builtin .imag,args,_⟩=>match args.toList with | [x]=>Ay (ρ x) K | _=>False
 | .call ⟨.builtin .cap,args,bJ⟩=>match args.toList,bJ.toList with | [x],[t]=>(match TT t with | some i=>Bh i.k (bc (ρ x)) K | none=>False) | _,_=>False
 | _=>False
end
end Go.Proofs.YtnpidbjdilnhlaaGreat
