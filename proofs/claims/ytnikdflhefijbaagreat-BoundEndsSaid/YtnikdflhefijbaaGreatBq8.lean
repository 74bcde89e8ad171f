import Derived.Test.YtnikdflhefijbaaGreatBq7
import Derived.Test.YtnikdflhefijbaaGreatBq6
namespace Go.Proofs.YtnikdflhefijbaaGreat
open Go.RowKit
set_option maxRecDepth 100000
abbrev lJ:Type:=Int×Int×Unit
def gA(n:Nat)(ar:List lJ):List Nat:=ar.map fun p=>bg p.1 n
def uE(n K:Nat)(L:List Nat):Prop:=∀i,i+K≤L.length→∀j,j<n→j∈(L.drop i).take K
theorem Hh{L:List Nat}{i K j:Nat}(h:j∈(L.drop i).take K):∃t,i≤t∧t<i+K∧L[t]?=some j:=by
 obtain⟨m,hm⟩:=lq.1 h;rw[oM]at hm;split at hm
 ·rw[xw]at hm;exact⟨i+m,by omega,by omega,hm⟩
 ·cases hm
theorem Lw{L:List Nat}{i K j t:Nat}(h1:i≤t)(h2:t<i+K)(h3:L[t]?=some j):j∈(L.drop i).take K:=by
 refine lq.2 ⟨t-i,?_⟩;rw[oM,af (by omega),xw,show i+(t-i)=t by omega];exact h3
theorem uE.take{n K:Nat}{L:List Nat}(h:uE n K L)(m:Nat):uE n K (L.take m):=fun i hi j hj=>by
 rw[tO]at hi;obtain⟨t,h1,h2,h3⟩:=Hh (h i (by omega) j hj);exact Lw h1 h2 (by rw[oM,af (by omega)];exact h3)
def yl(n:Nat)(L:List Nat)(i:Nat)(last:List Int):Prop:=last.length=n∧∀j,j<n→∃a:Nat,last.getD j 0=(a:Int)-1∧a≤i∧∀t,a≤t→t<i→L[t]?≠some j
theorem aia(n:Nat)(L:List Nat):yl n L 0 (List.replicate n (-1)):=by
 refine⟨fQ,fun j hj=>⟨0,?_,aQ _,fun t _ ht=>by omega⟩⟩;rw[aZ,vK,af hj];rfl
theorem yl.set{n:Nat}{L:List Nat}{i w:Nat}{last:List Int}(h:yl n L i last)(hw:L[i]?=some w):yl n L (i+1) (last.set w (i:Int)):=by
 refine⟨by rw[cz];exact h.1,fun j hj=>?_⟩;obtain⟨a,h1,h2,h3⟩:=h.2 j hj
 by_cases e:w=j
 ·subst e;refine⟨i+1,?_,aQ _,fun t h1 h2=>by omega⟩;rw[aZ,eA,af rfl,af (by rw[h.1];exact hj)];show (i:Int)=((i+1:Nat):Int)-1;omega
 ·refine⟨a,?_,by omega,fun t h4 h5=>?_⟩
  ·rw[aZ,eA,ag e,← aZ];exact h1
  ·rcases AM (C1 h5) with h6 | rfl
   ·exact h3 t h4 h6
   ·rw[hw];intro h7;cases h7;exact e rfl
theorem yl.gap{n K:Nat}{L:List Nat}{i j:Nat}{last:List Int}(h:yl n L i last)(hF:uE n K L)(hj:j<n)(hi:i≤L.length):0≤(i:Int)-last.getD j 0∧(i:Int)-last.getD j 0≤K∧(i:Int)-last.getD j 0≤i+1:=by
 obtain⟨a,h1,h2,h3⟩:=h.2 j hj;rw[h1];refine⟨by omega,?_,by omega⟩;apply Classical.byContradiction;intro hn;obtain⟨t,h4,h5,h6⟩:=Hh (hF a (by omega) j hj);exact h3 t h4 (by omega) h6
def eB(n:Nat):List Int:=(List.range n).map fun k:Nat=>(k:Int)
def mE(raw:List Int)(i:Nat):Int:=if raw.length=0 then 0 else raw.getD (i % raw.length) 0
def gm(n:Nat)(w:List Int):List Int:=if w.length=0 then eB n else w
def ee(n:Nat)(raw:List Int):Nat→List lJ×List Int
 | 0=>([],[])
 |i+1=>((ee n raw i).1++[((gm n (ee n raw i).2).getD (bg (mE raw i) (gm n (ee n raw i).2).length) 0,mE raw i,())],
  (gm n (ee n raw i).2).eraseIdx (bg (mE raw i) (gm n (ee n raw i).2).length))
theorem Dt(n:Nat)(raw:List Int):∀i,(ee n raw i).1.length=i
 | 0=>rfl
 |i+1=>by
  show (_++[_]).length=_;rw[bQ,Dt n raw i];rfl
theorem Bh(n:Nat):(eB n).length=n:=by unfold eB;rw[bX,oL]
theorem adl{n:Nat}{z:Int}(h:z∈eB n):0≤z∧z<n:=by
 obtain⟨k,hk,rfl⟩:=cX.1 h;have:=fF.1 hk;omega
theorem acj{n:Nat}{z:Int}(h:0≤z∧z<n):bg z n=z.toNat:=by
 unfold bg;rw[ag (by omega),Int.emod_eq_of_lt h.1 h.2]
theorem QN:∀(w:List Int) (i:Nat) (h:i<w.length),(w[i]::w.eraseIdx i).Perm w
 |_a::_w,0,_=>List.Perm.refl _
 |a::w,i+1,h=>(List.Perm.swap a _ _).trans (List.Perm.cons a (QN w i (Nat.lt_of_succ_lt_succ h)))
theorem aa8{w:List Int}{at_:Nat}(h:at_<w.length):(w.getD at_ 0::w.eraseIdx at_).Perm w:=by
 have e:w.getD at_ 0=w[at_]:=by rw[aZ,bB h];rfl
 rw[e];exact QN w at_ h
structure ak1(n:Nat)(o:List lJ)(w:List Int)(i:Nat):Prop where
 now:(w=[]∧i % n=0)∨∃a,a % n=0∧a≤i∧(((gA n o).drop a).map (fun k:Nat=>(k:Int))++w).Perm (eB n)
 was:∀a,a % n=0→a+n≤i→∀j,j<n→j∈((gA n o).drop a).take n
theorem aax{n:Nat}(hn:1≤n)(w:List Int):1≤(gm n w).length:=by
 unfold gm;split
 ·rw[Bh];exact hn
 ·omega
theorem Sp(n:Nat)(hn:1≤n)(raw:List Int):∀i,ak1 n (ee n raw i).1 (ee n raw i).2 i
 | 0=>⟨.inl ⟨rfl,Nat.zero_mod _⟩,fun a _ h=>by omega⟩
 |i+1=>by
  have ih:=Sp n hn raw i;have hl:=Dt n raw i;obtain⟨o,ho⟩:∃o,(ee n raw i).1=o:=⟨_,rfl⟩
  obtain⟨w,hw⟩:∃w,(ee n raw i).2=w:=⟨_,rfl⟩
  have e1:(ee n raw (i+1)).1=o++[((gm n w).getD (bg (mE raw i) (gm n w).length) 0,mE raw i,())]:=by rw[← ho,← hw];rfl
  have e2:(ee n raw (i+1)).2=(gm n w).eraseIdx (bg (mE raw i) (gm n w).length):=by rw[← hw];rfl
  rw[e1,e2];rw[ho,hw]at ih;rw[ho]at hl;have h1:=aax hn w;have ck:=pT (p:=mE raw i) (show 0<(gm n w).length by omega);generalize bg (mE raw i) (gm n w).length=at_ at ck ⊢
  obtain⟨a,ha,hai,hp⟩:∃a,a % n=0∧a≤i∧(((gA n o).drop a).map (fun k:Nat=>(k:Int))++gm n w).Perm (eB n):=by
   by_cases h0:w.length=0
   ·have e:gm n w=eB n:=af h0;refine⟨i,?_,aQ _,?_⟩
    ·rcases ih.now with ⟨_,h2⟩ | ⟨a,h2,h3,h4⟩
     ·exact h2
     ·have:=h4.length_eq;rw[bQ,bX,CX,Bh,h0]at this;have h5:(gA n o).length=i:=by unfold gA;rw[bX,hl]
      have:i=a+n:=by omega
      rw[this,Nat.add_mod_right];exact h2
    ·rw[e,C5 (by unfold gA;rw[bX,hl];exact aQ _)];exact List.Perm.refl _
   ·have e:gm n w=w:=ag h0;rw[e]
    rcases ih.now with ⟨h2,_⟩ | h2
    ·exact absurd (by rw[h2];rfl) h0
    ·exact h2
  have hz:=adl (hp.subset (jP _ (show (gm n w).getD at_ 0∈gm n w by rw[aZ,bB ck];exact cq ck)));have pA:(gA n o).length=i:=by unfold gA;rw[bX,hl]
  have ew:gA n (o++[((gm n w).getD at_ 0,mE raw i,())])=gA n o++[((gm n w).getD at_ 0).toNat]:=by
   unfold gA;rw[cF];show _++[bg ((gm n w).getD at_ 0) n]=_;rw[acj hz]
  have Ad:(((gA n o++[((gm n w).getD at_ 0).toNat]).drop a).map (fun k:Nat=>(k:Int))++(gm n w).eraseIdx at_).Perm (eB n):=by
   rw[La (by omega),cF,dW];refine List.Perm.trans (List.Perm.append_left _ ?_) hp;have:=aa8 ck;rw[show ([((gm n w).getD at_ 0).toNat].map fun k:Nat=>(k:Int))=[(gm n w).getD at_ 0] by show [((((gm n w).getD at_ 0).toNat:Nat):Int)]=_;rw[lW hz.1]];exact this
  rw[← ew]at Ad;refine⟨.inr ⟨a,ha,by omega,Ad⟩,fun a' AF hle j hj=>?_⟩
  by_cases hold:a'+n≤i
  ·have:=ih.was a' AF hold j hj;obtain⟨t,h2,h3,h4⟩:=Hh this;refine Lw h2 h3 ?_;rw[ew,j6 (by omega)];exact h4
  ·have hlen:=Ad.length_eq;rw[bQ,bX,CX,Bh]at hlen;have gx:(gA n (o++[((gm n w).getD at_ 0,mE raw i,())])).length=i+1:=by rw[ew,bQ,pA];rfl
   have h5:a=a':=by
    obtain⟨x,hx⟩:=Ql ha;obtain⟨y,hy⟩:=Ql AF;have h6:n*y≤n*x:=by omega
    have h7:n*x<n*(y+1):=by rw[CS];omega
    have h8:=Nat.le_of_mul_le_mul_left h6 (by omega);have h9:=Nat.lt_of_mul_lt_mul_left h7;rw[hx,hy,show x=y by omega]
   subst h5;have AI:(gm n w).eraseIdx at_=[]:=iz.1 (by omega);rw[AI,mV]at Ad;have Qa:(j:Int)∈eB n:=cX.2 ⟨j,fF.2 hj,rfl⟩;obtain⟨k,hk,e⟩:=cX.1 (Ad.symm.subset Qa);have e:(k:Int)=j:=e;obtain rfl:k=j:=by omega
   rw[eR (by rw[CX,gx];omega)];exact hk
theorem ZI(n:Nat)(hn:1≤n)(raw:List Int)(m:Nat):uE n (2*n-1) (gA n (ee n raw m).1):=by
 intro i hi j hj;have hw:=Sp n hn raw m;have hl:(gA n (ee n raw m).1).length=m:=by unfold gA;rw[bX,Dt]
 rw[hl]at hi;have h1:=Nat.div_add_mod (i+n-1) n;have h2:=mU (i+n-1) (show 0<n by omega);obtain⟨t,h3,h4,h5⟩:=Hh (hw.was (n*((i+n-1) / n)) (Nat.mul_mod_right _ _) (by omega) j hj);exact Lw (by omega) (by omega) h5
theorem A5{i:TI}{K:AV→Hp→Prop}(fr:Hp){acc σ:Hp}{k n:Nat}{v x:AV}{cs new:List AV}(h:Acc i.size k v acc cs)(hx:kx (fr++(acc++σ)) i.size x n new)(iG:new.length=n*i.size)(hn:k+n≤1048576)(hb:i.bytes≤1024)(h0:0<i.size)
  (go:∀v' aY,Acc i.size (k+n) v' aY (cs++new)→K v' (fr++(aY++σ))):AppendAt i (fr++(acc++σ)) v x K:=by
 have hl:=h.length;cases h with
 |nil=>
  refine .perm _ (fS fr [] σ) (.fresh n new (.inl rfl) (hx.perm (fS fr [] σ)) (by omega) hb h0 (K:=fun v eJ=>(n=0∧v=.an∧eJ=[]++(fr++σ))∨(n≠0∧∃b,v=.ae b 0 n i.size∧eJ=(b,new)::([]++(fr++σ)))) (fun aS b=>.inr ⟨aS,b,rfl,rfl⟩) (fun h0=>.inl ⟨h0,rfl,rfl⟩)) ?_;rintro v eJ (⟨hz,rfl,rfl⟩ | ⟨hz,b,rfl,rfl⟩)
  ·subst hz;obtain rfl:new=[]:=List.length_eq_zero_iff.1 (by simpa using iG);exact⟨_,(fS fr [] σ).symm,.inl (go _ _ .nil)⟩
  ·refine⟨_,(fS fr [(b,new)] σ).symm,.inl (go _ _ ?_)⟩;have:=Acc.ae (e:=i.size) b (0+n) new (by rw[iG,dI]);rw[dI]at this ⊢;exact this
 |ae b k cs h=>
  refine .perm _ (fS fr [(b,cs)] σ) (.more 0 b k n cs new rfl rfl (by rw[h];exact aQ _) (hx.perm (fS fr [(b,cs)] σ)) hn hb h0 (K:=fun v eJ=>∃b',v=.ae b' 0 (k+n) i.size∧eJ=(b',cs.take (k*i.size)++new)::(fr++σ)) (fun b'=>⟨b',rfl,rfl⟩)) ?_;rintro v eJ ⟨b',rfl,rfl⟩;rw[eR (by omega)];exact⟨_,(fS fr [(b',cs++new)] σ).symm,.inl (go _ _ (.ae _ _ _ (by rw[bQ,h,iG,lU])))⟩
theorem nO(f:List Hp)(σ:Hp){a b:List Nat}(h:a.Perm b):(a.foldr (fun i t=>f.getD i []++t) σ).Perm (b.foldr (fun i t=>f.getD i []++t) σ):=by
 induction h with
 |nil=>exact .refl _
 |cons x _ ih=>exact ih.append_left _
 |swap x y l=>exact fS _ _ _
 |trans _ _ FP FO=>exact FP.trans FO
set_option maxHeartbeats 4000000
theorem abj{β:Type}(f:Nat→β)(c:β→AV)(i:Nat):((List.range (i+1)).map f).map c=((List.range i).map f).map c++[c (f i)]:=by
 rw[sM,cF,cF];rfl
theorem ajL{e k:Nat}{v:AV}{acc:Hp}{cs cs':List AV}(h:cs=cs')(ha:Acc e k v acc cs'):Acc e k v acc cs:=h▸ha
theorem ahP(g:FuncId)(cap:List AV)(St:List Nat→Hp→Prop)(S0 σ:Hp)(h0:St [] S0)(n:Nat)(hn:n≤100000)(F9:∀(L:List Nat) (S τ:Hp),L.length<n→St L S→ACalls Tryz.prog g (.int .i64 L.length::cap) (S++τ) (fun r σ'=>∃w S',r=.ptr w 0∧σ'=S'++τ∧St (L++[w]) S')):ACalls Tryz.prog 98 [.int .i64 n,.fn (.func g) [] cap] (S0++σ) (fun r σ'=>∃L S' acc,L.length=n∧St L S'∧Acc 1 n r acc (L.map fun w=>.ptr w 0)∧σ'=acc++(S'++σ)):=by
 refine ay Tryz.func98 ?_;refine .wrap 5 .an rfl rfl ?_;refine ca (S:=List Nat×AV×Hp×{S:Hp // True}) (fun t=>[(1,.fn (.func g) [] cap),(5,.via t.2.1),(7,.int .i64 n),(8,.int .i64 t.1.length)]) (fun t=>t.2.2.1++(t.2.2.2.1++σ)) (fun t=>t.1.length≤n∧Acc 1 t.1.length t.2.1 t.2.2.1 (t.1.map (fun w=>AV.ptr w 0))∧St t.1 t.2.2.2.1) (fun t=>n-t.1.length) ([],.an,[],⟨S0,trivial⟩) ⟨⟨bC _,.nil,h0⟩,⟨rfl,rfl,rfl,rfl,trivial⟩,rfl⟩ ?_;rintro⟨L,v,acc,⟨S,_⟩⟩ g2 ⟨fE,h0,Gp⟩;have hi:L.length≤n:=fE;have h:Acc 1 L.length v acc (L.map (fun w=>AV.ptr w 0)):=h0;have hS:St L S:=Gp;clear fE h0 Gp;refine ao (p:=(L.length:Int)<(n:Int)) (fun ab=>?_) (fun au=>?_);rotate_left
 ·have au:L.length=n:=by omega
  exact .done ⟨L,S,acc,au,hS,au▸h,rfl⟩
 have ab:L.length<n:=by omega
 refine .perm (σ2:=S++(acc++σ)) _ (fS acc S σ) (F9 L S (acc++σ) ab hS) ?_;rintro _ _ ⟨w,S',rfl,rfl,CP⟩;refine⟨_,(fS acc S' σ).symm,?_⟩;intro b1;refine iC [_] h (.ae 0 b1 0 1 _ rfl (cy rfl)) rfl (by omega) (by decide) (by decide) (fun v' aY h'=>?_);refine a8 (L++[w],v',aY,⟨S',trivial⟩) (by show n-(L++[w]).length<n-L.length;rw[bQ];simp only[sN];omega) ⟨by rw[bQ];exact ab,?_,CP⟩ ⟨rfl,rfl,rfl,?_,trivial⟩ (.drop 0 1 (.refl _))
 ·show Acc 1 (L++[w]).length v' aY ((L++[w]).map (fun w=>AV.ptr w 0));rw[bQ,cF];exact h'
 ·rw[bQ];exact aX (show L.length<1000000000 by omega)
theorem W2(g:FuncId)(cap:List AV)(St:List Nat→Hp→Prop)(S0 σ:Hp)(h0:St [] S0)(n:Nat)(hn:n≤100000)(F9:∀(L:List Nat) (S τ:Hp),L.length<n→St L S→ACalls Tryz.prog g (.int .i64 L.length::cap) (S++τ) (fun r σ'=>∃w S',r=.iface 168 (.ptr w 0)∧σ'=S'++τ∧St (L++[w]) S')):ACalls Tryz.prog 102 [.int .i64 n,.fn (.func g) [] cap] (S0++σ) (fun r σ'=>∃L S' acc,L.length=n∧St L S'∧Acc 1 n r acc (L.map fun w=>.iface 168 (.ptr w 0))∧σ'=acc++(S'++σ)):=by
 refine ay Tryz.func102 ?_;refine .wrap 5 .an rfl rfl ?_;refine ca (S:=List Nat×AV×Hp×{S:Hp // True}) (fun t=>[(1,.fn (.func g) [] cap),(5,.via t.2.1),(7,.int .i64 n),(8,.int .i64 t.1.length)]) (fun t=>t.2.2.1++(t.2.2.2.1++σ)) (fun t=>t.1.length≤n∧Acc 1 t.1.length t.2.1 t.2.2.1 (t.1.map (fun w=>AV.iface 168 (.ptr w 0)))∧St t.1 t.2.2.2.1) (fun t=>n-t.1.length) ([],.an,[],⟨S0,trivial⟩) ⟨⟨bC _,.nil,h0⟩,⟨rfl,rfl,rfl,rfl,trivial⟩,rfl⟩ ?_;rintro⟨L,v,acc,⟨S,_⟩⟩ g2 ⟨fE,h0,Gp⟩;have hi:L.length≤n:=fE;have h:Acc 1 L.length v acc (L.map (fun w=>AV.iface 168 (.ptr w 0))):=h0;have hS:St L S:=Gp;clear fE h0 Gp;refine ao (p:=(L.length:Int)<(n:Int)) (fun ab=>?_) (fun au=>?_);rotate_left
 ·have au:L.length=n:=by omega
  exact .done ⟨L,S,acc,au,hS,au▸h,rfl⟩
 have ab:L.length<n:=by omega
 refine .perm (σ2:=S++(acc++σ)) _ (fS acc S σ) (F9 L S (acc++σ) ab hS) ?_;rintro _ _ ⟨w,S',rfl,rfl,CP⟩;refine⟨_,(fS acc S' σ).symm,?_⟩;intro b1;refine iC [_] h (.ae 0 b1 0 1 _ rfl (cy rfl)) rfl (by omega) (by decide) (by decide) (fun v' aY h'=>?_);refine a8 (L++[w],v',aY,⟨S',trivial⟩) (by show n-(L++[w]).length<n-L.length;rw[bQ];simp only[sN];omega) ⟨by rw[bQ];exact ab,?_,CP⟩ ⟨rfl,rfl,rfl,?_,trivial⟩ (.drop 0 1 (.refl _))
 ·show Acc 1 (L++[w]).length v' aY ((L++[w]).map (fun w=>AV.iface 168 (.ptr w 0)));rw[bQ,cF];exact h'
 ·rw[bQ];exact aX (show L.length<1000000000 by omega)
theorem ahQ(g:FuncId)(cap:List AV)(S σ:Hp)(f:Nat→List Int)(n:Nat)(hn:n≤100000)(F9:∀i:Nat,i<n→∀τ,ACalls Tryz.prog g (.int .i64 i::cap) (S++τ) (aC (.ah (.int .u64) (f i)) (S++τ))):ACalls Tryz.prog 104 [.int .i64 n,.fn (.func g) [] cap] (S++σ) (aC (.ah (.slice (.int .u64)) ((List.range n).map f)) (S++σ)):=by
 refine ay Tryz.func104 ?_;refine .wrap 5 .an rfl rfl ?_;refine ca (S:=Nat×AV×Hp) (fun t=>[(1,.fn (.func g) [] cap),(5,.via t.2.1),(7,.int .i64 n),(8,.int .i64 t.1)]) (fun t=>t.2.2++(S++σ)) (fun t=>t.1≤n∧Acc 1 t.1 t.2.1 t.2.2 (((List.range t.1).map f).map (AV.ah (.int .u64)))) (fun t=>n-t.1) (0,.an,[]) ⟨⟨bC _,.nil⟩,⟨rfl,rfl,rfl,rfl,trivial⟩,rfl⟩ ?_;rintro⟨i,v,acc⟩ g ⟨fE,h0⟩;have hi:i≤n:=fE;have h:Acc 1 i v acc (((List.range i).map f).map (AV.ah (.int .u64))):=h0;clear fE h0;refine ao (p:=(i:Int)<(n:Int)) (fun ab=>?_) (fun au=>?_);rotate_left
 ·have au:i=n:=by omega
  subst au;have hlen:((List.range i).map f).length=i:=by rw[bX,oL]
  exact rX [] (s:=(.slice (.int .u64))) h hlen.symm (List.map_eq_flatMap ..) Nat.one_pos (.done ⟨rfl,rfl⟩)
 have ab:i<n:=by omega
 refine .perm (σ2:=S++(acc++σ)) _ (fS acc S σ) (F9 i ab (acc++σ)) ?_;rintro _ _ ⟨rfl,rfl⟩;refine⟨_,(fS acc S σ).symm,?_⟩;intro b1;refine iC [_] h (.ae 0 b1 0 1 _ rfl (cy rfl)) rfl (by omega) (by decide) (by decide) (fun v' aY h'=>?_);refine a8 (i+1,v',aY) (by show n-(i+1)<n-i;omega) ⟨ab,?_⟩ ⟨rfl,rfl,rfl,aX (by omega),trivial⟩ (.drop 0 1 (.refl _));show Acc 1 (i+1) v' aY (((List.range (i+1)).map f).map (AV.ah (.int .u64)));exact ajL (abj f (AV.ah (.int .u64)) i) h'
theorem ajQ(l:List Int)(x:Int)(σ:Hp)(hl:l.length≤1000000):ACalls Tryz.prog 144 [.ah (.int .i64) l,.int .i64 x] σ (aC (.bool (l.any fun z=>decide (x=z))) σ):=by
 refine ay Tryz.func144 ?_;refine ca (S:=Nat) (fun k=>[(1,.int .i64 x),(7,.ah (.int .i64) l),(8,.int .i64 l.length),(9,.int .i64 k)]) (fun _=>σ) (fun k=>k≤l.length∧((l.take k).any fun z=>decide (x=z))=false) (fun k=>l.length-k) 0 ⟨⟨bC _,rfl⟩,⟨rfl,rfl,rfl,rfl,trivial⟩,rfl⟩ ?_;rintro k g ⟨aP,nI⟩;have hk:k≤l.length:=aP;have ha:((l.take k).any fun z=>decide (x=z))=false:=nI;clear aP nI;refine ao (fun ab=>?_) (fun au=>?_)
 ·have ab:k<l.length:=by have ab:(k:Int)<l.length:=ab;omega
  have hs:=sU ab fun z:Int=>decide (x=z);rw[ha,pI]at hs;refine aJ.mk rfl (bO.mk l[k] (by omega) (get_some ab) ?_);refine ao (p:=l[k]=x) (fun d1=>?_) (fun d1=>?_)
  ·exact .done ⟨cY (mW.2 ⟨l[k],cq ab,bu d1.symm⟩).symm,rfl⟩
  ·exact a8 (k+1) (by show l.length-(k+1)<l.length-k;omega) ⟨ab,hs.trans (cf fun h=>d1 h.symm)⟩ ⟨rfl,rfl,rfl,aX (by omega),trivial⟩ (.refl _)
 ·have au:k=l.length:=by have au:¬(k:Int)<l.length:=au;omega
  subst au;rw[ga]at ha;exact .done ⟨cY ha.symm,rfl⟩
end Go.Proofs.YtnikdflhefijbaaGreat
namespace Go.Proofs.YtnikdflhefijbaaGreat
def cb:List Nat→Nat
 | []=>0
 |b::l=>cb l*256+b
theorem DF(a b c d:Nat)(hb:b<256)(hd:d<256):(a*256+b) &&& (c*256+d)=(a &&& c)*256+(b &&& d):=by
 have AE:b &&& d<256:=AL GD hb;refine C3 fun i=>?_;rw[KN,vB a,vB c,vB (a &&& c),show (256:Nat)=2 ^ 8 by decide,Qn a hb,Qn c hd,Qn (a &&& c) AE];split
 ·rw[KN]
 ·rw[KN]
def g1(b:Nat):Nat:=(b / 2 &&& 85)+(b &&& 85)
def g2(b:Nat):Nat:=(b / 4 &&& 51)+(b &&& 51)
def g3(b:Nat):Nat:=(b / 16+b) &&& 15
theorem aiB:∀h<2,∀b<256,(h*128+b / 2) &&& 85=b / 2 &&& 85:=by decide +kernel
theorem aiA:∀h<4,∀b<256,(h*64+b / 4) &&& 51=b / 4 &&& 51:=by decide +kernel
theorem adD:∀b<256,g1 b≤170:=by decide +kernel
theorem adC:∀b<256,g2 (g1 b) % 16≤4∧g2 (g1 b) / 16≤4:=by decide +kernel
theorem aiz:∀h≤4,∀l≤4,∀k≤4,(k*16+((h*16+l) / 16+(h*16+l))) &&& 15=g3 (h*16+l)∧k*16+((h*16+l) / 16+(h*16+l))<256:=by decide +kernel
def wN(b:Nat):Nat:=g3 (g2 (g1 b))
theorem v7:∀b<256,wN b≤8:=by decide +kernel
theorem aaW:∀b<256,wN b=0→b=0:=by decide +kernel
theorem Wa:∀(l:List Nat),(∀b∈l,b<256)→(cb l / 2 &&& cb (l.map fun _=>85))+(cb l &&& cb (l.map fun _=>85))=cb (l.map g1)
 | [],_=>rfl
 |b::l,h=>by
  have hb:=h b (.head _);have ih:=Wa l (fun x hx=>h x (.tail _ hx));show (((cb l*256+b) / 2) &&& (cb (l.map fun _=>85)*256+85))+((cb l*256+b) &&& (cb (l.map fun _=>85)*256+85))=cb (l.map g1)*256+g1 b;have e:(cb l*256+b) / 2=cb l / 2*256+(cb l % 2*128+b / 2):=by omega
  rw[e,DF _ _ _ _ (by omega) (by decide),DF _ _ _ _ hb (by decide),aiB _ (mU _ (by decide)) _ hb,← ih];show _=_*256+((b / 2 &&& 85)+(b &&& 85));generalize cb l / 2 &&& cb (l.map fun _=>85)=A;generalize cb l &&& cb (l.map fun _=>85)=B;generalize b / 2 &&& 85=C;generalize b &&& 85=D;omega
theorem V9:∀(l:List Nat),(∀b∈l,b<256)→(cb l / 4 &&& cb (l.map fun _=>51))+(cb l &&& cb (l.map fun _=>51))=cb (l.map g2)
 | [],_=>rfl
 |b::l,h=>by
  have hb:=h b (.head _);have ih:=V9 l (fun x hx=>h x (.tail _ hx));show (((cb l*256+b) / 4) &&& (cb (l.map fun _=>51)*256+51))+((cb l*256+b) &&& (cb (l.map fun _=>51)*256+51))=cb (l.map g2)*256+g2 b;have e:(cb l*256+b) / 4=cb l / 4*256+(cb l % 4*64+b / 4):=by omega
  rw[e,DF _ _ _ _ (by omega) (by decide),DF _ _ _ _ hb (by decide),aiA _ (mU _ (by decide)) _ hb,← ih];show _=_*256+((b / 4 &&& 51)+(b &&& 51));generalize cb l / 4 &&& cb (l.map fun _=>51)=A;generalize cb l &&& cb (l.map fun _=>51)=B;generalize b / 4 &&& 51=C;generalize b &&& 51=D;omega
theorem acp:∀(l:List Nat),(∀b∈l,b % 16≤4∧b / 16≤4)→cb l % 16≤4
 | [],_=>by decide
 |b::l,h=>by
  have:=(h b (.head _)).1;show (cb l*256+b) % 16≤4;omega
theorem V8:∀(l:List Nat),(∀b∈l,b % 16≤4∧b / 16≤4)→((cb l / 16+cb l) &&& cb (l.map fun _=>15))=cb (l.map g3)
 | [],_=>rfl
 |b::l,h=>by
  obtain⟨h1,h2⟩:=h b (.head _);have ih:=V8 l (fun x hx=>h x (.tail _ hx));have hm:=acp l (fun x hx=>h x (.tail _ hx));show (((cb l*256+b) / 16+(cb l*256+b)) &&& (cb (l.map fun _=>15)*256+15))=cb (l.map g3)*256+g3 b;have tJ:b=b / 16*16+b % 16:=by omega
  obtain⟨f1,f2⟩:=aiz _ h2 _ h1 _ hm;rw[← tJ]at f1 f2;have e:(cb l*256+b) / 16+(cb l*256+b)=(cb l / 16+cb l)*256+(cb l % 16*16+(b / 16+b)):=by omega
  rw[e,DF _ _ _ _ f2 (by decide),f1,ih]
def wx(x:Nat):List Nat:=[x % 256,x / 256 % 256,x / 65536 % 256,x / 16777216 % 256,x / 4294967296 % 256,x / 1099511627776 % 256,x / 281474976710656 % 256,x / 72057594037927936 % 256]
theorem Sa{x:Nat}(h:x<18446744073709551616):cb (wx x)=x:=by
 unfold wx cb cb cb cb cb cb cb cb cb;omega
theorem L9(x:Nat):∀b∈wx x,b<256:=by
 intro b hb;simp only[wx,dm,xt,or_false]at hb;omega
def uM(x:Nat):Nat:=((wx x).map wN).sum
theorem af9(x:Nat):uM x≤64:=by
 have h:=L9 x;unfold uM wx at *;simp only[pJ,List.map_nil,KE,List.sum_nil,dm,xt,or_false,forall_eq_or_imp,forall_eq]at *;obtain⟨h0,h1,h2,h3,h4,h5,h6,h7⟩:=h;have:=v7 _ h0;have:=v7 _ h1;have:=v7 _ h2;have:=v7 _ h3;have:=v7 _ h4;have:=v7 _ h5;have:=v7 _ h6;have:=v7 _ h7;omega
theorem aaV{x:Nat}(hx:x<18446744073709551616)(h:uM x=0):x=0:=by
 have hb:=L9 x;have hv:=Sa hx;unfold uM at h;generalize wx x=l at *
 have hz:∀b∈l,b=0:=by
  intro b hm;refine aaW b (hb b hm) ?_
  have hle:∀(l:List Nat),b∈l→wN b≤(l.map wN).sum:=by
   intro l
   induction l with
   |nil=>intro h;cases h
   |cons c l ih=>
    intro h;rw[pJ,KE]
    rcases dm.1 h with rfl | h
    ·omega
    ·have:=ih h;omega
  have:=hle l hm;omega
 have:∀(l:List Nat),(∀b∈l,b=0)→cb l=0:=by
  intro l
  induction l with
  |nil=>intro _;rfl
  |cons b l ih=>
   intro h;show cb l*256+b=0;rw[ih (fun x hx=>h x (.tail _ hx)),h b (.head _)]
 rw[← hv,this l hz]
theorem aiu{e0 e1 e2 e3 e4 e5 e6 e7 x3 y1 y2 y3:Nat}(h:e0≤8∧e1≤8∧e2≤8∧e3≤8∧e4≤8∧e5≤8∧e6≤8∧e7≤8)(hx:x3=cb [e0,e1,e2,e3,e4,e5,e6,e7])(h1:y1=x3+x3 / 256)(h2:y2=y1+y1 / 65536)(h3:y3=y2+y2 / 4294967296):y3 % 128=e0+e1+e2+e3+e4+e5+e6+e7∧y3<9223372036854775808∧y2<18446744073709551616∧y1<18446744073709551616:=by
 obtain⟨k0,k1,k2,k3,k4,k5,k6,k7⟩:=h;obtain⟨T1,PX⟩:∃T,T=cb [e1,e2,e3,e4,e5,e6,e7]:=⟨_,rfl⟩
 obtain⟨T2,Gl⟩:∃T,T=cb [e2,e3,e4,e5,e6,e7]:=⟨_,rfl⟩
 obtain⟨T3,PW⟩:∃T,T=cb [e3,e4,e5,e6,e7]:=⟨_,rfl⟩
 obtain⟨T4,PV⟩:∃T,T=cb [e4,e5,e6,e7]:=⟨_,rfl⟩
 obtain⟨T5,PU⟩:∃T,T=cb [e5,e6,e7]:=⟨_,rfl⟩
 obtain⟨T6,PT⟩:∃T,T=cb [e6,e7]:=⟨_,rfl⟩
 obtain⟨T7,PS⟩:∃T,T=cb [e7]:=⟨_,rfl⟩
 have hx:x3=T1*256+e0:=by rw[hx,PX];rfl
 have t1:T1=T2*256+e1:=by rw[PX,Gl];rfl
 have t2:T2=T3*256+e2:=by rw[Gl,PW];rfl
 have t3:T3=T4*256+e3:=by rw[PW,PV];rfl
 have t4:T4=T5*256+e4:=by rw[PV,PU];rfl
 have t5:T5=T6*256+e5:=by rw[PU,PT];rfl
 have t6:T6=T7*256+e6:=by rw[PT,PS];rfl
 have t7:T7=e7:=by rw[PS];exact dI _
 clear PX Gl PW PV PU PT PS;have d1:x3 / 256=T1:=by clear h1 h2 h3 t1 t2 t3 t4 t5 t6 t7;omega
 have u1:y1=(T2+T3)*65536+(e1*256+e2*256+e0+e1):=by rw[h1,d1];clear h1 h2 h3 d1 t3 t4 t5 t6 t7;omega
 have d2:y1 / 65536=T2+T3:=by clear h1 h2 h3 t1 t2 t3 t4 t5 t6 t7 d1 hx;omega
 have u2:y2=(T4+T5+T6+T7)*4294967296+((e0+e1+e2+e3)+(e1+e2+e3+e4)*256+(e2+e3+e4+e5)*65536+(e3+e4+e5+e6)*16777216):=by rw[h2,d2,u1];clear h1 h2 h3 d1 d2 u1 hx t7;omega
 have d3:y2 / 4294967296=T4+T5+T6+T7:=by clear h1 h2 h3 t1 t2 t3 t4 t5 t6 t7 d1 d2 hx u1;omega
 have u3:y3=(T4+T5+T6+T7)*4294967296+((e0+e1+e2+e3)+(e1+e2+e3+e4)*256+(e2+e3+e4+e5)*65536+(e3+e4+e5+e6)*16777216)+(T4+T5+T6+T7):=by rw[h3,d3,u2]
 have b7:T7≤8:=by omega
 have b6:T6≤2056:=by clear u1 u2 u3 d1 d2 d3 h1 h2 h3 hx;omega
 have b5:T5≤526344:=by clear u1 u2 u3 d1 d2 d3 h1 h2 h3 hx;omega
 have b4:T4≤134744072:=by clear u1 u2 u3 d1 d2 d3 h1 h2 h3 hx;omega
 have b3:T3≤34494482440:=by clear u1 u2 u3 d1 d2 d3 h1 h2 h3 hx;omega
 have b2:T2≤8830587504648:=by clear u1 u2 u3 d1 d2 d3 h1 h2 h3 hx;omega
 refine⟨?_,?_,?_,?_⟩
 ·clear u1 u2 d1 d2 d3 h1 h2 h3 hx b2 b3 b4 b5 b6 b7 t1 t2 t3;omega
 ·clear u1 u2 d1 d2 d3 h1 h2 h3 hx t1 t2 t3 t4 t5 t6 t7;omega
 ·clear u1 u3 d1 d2 d3 h1 h2 h3 hx t1 t2 t3 t4 t5 t6 t7;omega
 ·clear u2 u3 d1 d2 d3 h1 h2 h3 hx t1 t2 t3 t4 t5 t6 t7;omega
set_option maxRecDepth 100000
theorem zy{z:Int}(h:bK z):(z.toNat:Int)=z:=by unfold bK at h;omega
theorem uO{z:Int}(h:bK z):z.toNat<18446744073709551616:=by unfold bK at h;omega
theorem aeH{n:Nat}(h:n<18446744073709551616):bK (n:Int):=by unfold bK;omega
theorem rP{a b:Nat}(ha:a<18446744073709551616)(hb:b<18446744073709551616):bits .and .u64 (a:Int) (b:Int)=((a &&& b:Nat):Int):=by
 show IntKind.u64.wrap ((BitVec.ofInt 64 (a:Int) &&& BitVec.ofInt 64 (b:Int)).toNat:Int)=_;rw[BitVec.toNat_and,BitVec.ofInt_natCast,BitVec.ofInt_natCast,BitVec.toNat_ofNat,BitVec.toNat_ofNat,vE ha,vE hb,IntKind.wrap_u64];have:a &&& b≤a:=GD;omega
theorem tX{a b:Nat}(ha:a<18446744073709551616)(hb:b<18446744073709551616):bits .or .u64 (a:Int) (b:Int)=((a ||| b:Nat):Int):=by
 show IntKind.u64.wrap ((BitVec.ofInt 64 (a:Int) ||| BitVec.ofInt 64 (b:Int)).toNat:Int)=_;rw[BitVec.toNat_or,BitVec.ofInt_natCast,BitVec.ofInt_natCast,BitVec.toNat_ofNat,BitVec.toNat_ofNat,vE ha,vE hb,IntKind.wrap_u64];have:a ||| b<2 ^ 64:=KS ha hb
 have mw:(2:Nat) ^ 64=18446744073709551616:=by decide
 omega
theorem H4(a:Nat)(k:Nat)(j:Int)(hj:min j.toNat IntKind.u64.bits=k):(a:Int).fdiv (2 ^ min j.toNat IntKind.u64.bits)=((a / 2 ^ k:Nat):Int):=by
 rw[hj,Int.fdiv_eq_ediv_of_nonneg _ (Int.pow_nonneg (by decide)),Int.natCast_ediv,Int.natCast_pow];rfl
theorem ML:∀(l:List Nat),(∀b∈l,b<256)→cb l<256 ^ l.length
 | [],_=>by decide
 |b::l,h=>by
  have:=ML l (fun x hx=>h x (.tail _ hx));have hb:=h b (.head _);show cb l*256+b<256 ^ (l.length+1);rw[Nat.pow_succ];omega
def oA(k m x:Int):Int:=IntKind.u64.wrap (bits .and .u64 (x.fdiv (2 ^ min k.toNat IntKind.u64.bits)) m+bits .and .u64 x m)
def oB(x:Int):Int:=bits .and .u64 (IntKind.u64.wrap (x.fdiv (2 ^ min (4:Int).toNat IntKind.u64.bits)+x)) 1085102592571150095
def oC(k x:Int):Int:=IntKind.u64.wrap (x+x.fdiv (2 ^ min k.toNat IntKind.u64.bits))
def oD(x:Int):Int:=bits .and .i64 (IntKind.i64.wrap x) 127
theorem zG{n:Nat}(h:n<18446744073709551616):IntKind.u64.wrap (n:Int)=n:=by rw[IntKind.wrap_u64];omega
theorem ahp(n:Nat)(h:n<9223372036854775808):oD (n:Int)=((n % 128:Nat):Int):=by
 unfold oD;rw[show IntKind.i64.wrap (n:Int)=n by rw[IntKind.wrap_i64];omega];show IntKind.i64.wrap ((BitVec.ofInt 64 (n:Int) &&& BitVec.ofInt 64 (127:Int)).toNat:Int)=_;rw[BitVec.toNat_and,BitVec.ofInt_natCast,BitVec.toNat_ofNat,vE (show n<2 ^ 64 from Gz h (by decide)),show (BitVec.ofInt 64 (127:Int)).toNat=2 ^ 7-1 by decide,Qq,IntKind.wrap_i64];have:(2:Nat) ^ 7=128:=by decide
 omega
theorem ad5{n:Nat}(h:n<18446744073709551616):oD (oC 32 (oC 16 (oC 8 (oB (oA 2 3689348814741910323 (oA 1 6148914691236517205 (n:Int)))))))=(uM n:Int):=by
 have hb:=L9 n;have hv:=Sa h;obtain⟨l,hl⟩:∃l,l=wx n:=⟨_,rfl⟩
 have hlen:l.length=8:=by rw[hl];rfl
 rw[← hl]at hb hv;have OQ:(256:Nat) ^ 8=18446744073709551616:=by decide
 have mT:∀b∈l.map g1,b<256:=fun b hm=>by
  obtain⟨c,hc,rfl⟩:=cX.1 hm;have:=adD c (hb c hc);omega
 have sF:∀b∈(l.map g1).map g2,b % 16≤4∧b / 16≤4:=fun b hm=>by
  obtain⟨c,hc,rfl⟩:=cX.1 hm;obtain⟨d,hd,rfl⟩:=cX.1 hc;exact adC d (hb d hd)
 have ajt:∀b∈(l.map g1).map g2,b<256:=fun b hm=>by have:=sF b hm;omega
 have m1:cb (l.map fun _=>85)=6148914691236517205:=by rw[List.map_const',hlen];rfl
 have m2:cb ((l.map g1).map fun _=>51)=3689348814741910323:=by rw[List.map_const',bX,hlen];rfl
 have m3:cb (((l.map g1).map g2).map fun _=>15)=1085102592571150095:=by rw[List.map_const',bX,bX,hlen];rfl
 have s1:=Wa l hb;have s2:=V9 (l.map g1) mT;have s3:=V8 ((l.map g1).map g2) sF;rw[m1,hv]at s1;rw[m2]at s2;rw[m3]at s3;have l1:=ML _ mT;have l2:=ML _ ajt;rw[bX,hlen,OQ]at l1;rw[bX,bX,hlen,OQ]at l2
 have hA:∀(x m y k:Nat) (j:Int),min j.toNat IntKind.u64.bits=k→x<18446744073709551616→m<18446744073709551616→(x / 2 ^ k &&& m)+(x &&& m)=y→y<18446744073709551616→oA j (m:Int) (x:Int)=(y:Int):=by
  intro x m y k j hj hx hm hy xd;unfold oA;rw[H4 x k j hj,rP (AL (Nat.div_le_self _ _) hx) hm,rP hx hm,← qC,hy];exact zG xd
 have e1:=hA n 6148914691236517205 _ 1 1 rfl h (by decide) s1 l1;have e2:=hA _ 3689348814741910323 _ 2 2 rfl l1 (by decide) s2 l2
 have sB:cb ((l.map g1).map g2) / 16+cb ((l.map g1).map g2)<18446744073709551616:=by
  have hz:∀(q:List Nat),(∀b∈q,b % 16≤4∧b / 16≤4)→cb q*2<256 ^ q.length∨q=[]:=by
   intro q
   induction q with
   |nil=>intro _;exact .inr rfl
   |cons b q ih=>
    intro h;have hb:=h b (.head _);refine .inl ?_;show (cb q*256+b)*2<256 ^ (q.length+1);rw[Nat.pow_succ]
    rcases ih (fun x hx=>h x (.tail _ hx)) with h1 | rfl
    ·omega
    ·show (0*256+b)*2<256 ^ 0*256;omega
  rcases hz _ sF with h1 | h1
  ·rw[bX,bX,hlen,OQ]at h1;omega
  ·have:=congrArg List.length h1;rw[bX,bX,hlen]at this;cases this
 have e3:oB (cb ((l.map g1).map g2):Int)=(cb (((l.map g1).map g2).map g3):Int):=by
  unfold oB;rw[H4 _ 4 4 rfl,← qC,show (2:Nat) ^ 4=16 by decide,zG sB];have:=rP (b:=1085102592571150095) sB (by decide);rw[s3]at this;exact this
 have hC:∀(x k:Nat) (j:Int),min j.toNat IntKind.u64.bits=k→x+x / 2 ^ k<18446744073709551616→oC j (x:Int)=((x+x / 2 ^ k:Nat):Int):=by
  intro x k j hj hx;unfold oC;rw[H4 x k j hj,← qC];exact zG hx
 have ajc:((l.map g1).map g2).map g3=l.map wN:=by simp[wN,Function.comp_def]
 rw[ajc]at e3
 obtain⟨e0,f1,f2,f3,f4,f5,f6,f7,hq,aj6,hle⟩:∃e0 e1 e2 e3 e4 e5 e6 e7,l.map wN=[e0,e1,e2,e3,e4,e5,e6,e7]∧uM n=e0+e1+e2+e3+e4+e5+e6+e7∧(e0≤8∧e1≤8∧e2≤8∧e3≤8∧e4≤8∧e5≤8∧e6≤8∧e7≤8):=by
  refine⟨_,_,_,_,_,_,_,_,by rw[hl];rfl,?_,?_⟩
  ·unfold uM wx;simp only[pJ,List.map_nil,KE,List.sum_nil];omega
  ·refine⟨?_,?_,?_,?_,?_,?_,?_,?_⟩ <;> exact v7 _ (mU _ (by decide))
 obtain⟨X,hX⟩:∃X,X=cb (l.map wN):=⟨_,rfl⟩
 rw[← hX]at e3;rw[hq]at hX;obtain⟨g1',g2',g3',g4'⟩:=aiu hle hX rfl rfl rfl;have e4:=hC X 8 8 rfl g4';have e5:=hC (X+X / 256) 16 16 rfl g3';have e6:=hC (X+X / 256+(X+X / 256) / 65536) 32 32 rfl (Gz g2' (by decide));have Pv:oA 1 6148914691236517205 (n:Int)=_:=e1;rw[Pv];have sA:oA 2 3689348814741910323 (cb (l.map g1):Int)=_:=e2;rw[sA,e3,e4];have e5:oC 16 ((X+X / 256:Nat):Int)=_:=e5;have e6:oC 32 ((X+X / 256+(X+X / 256) / 65536:Nat):Int)=_:=e6;rw[show ((X+X / 2 ^ 8:Nat):Int)=((X+X / 256:Nat):Int) from rfl,e5,show ((X+X / 256+(X+X / 256) / 2 ^ 16:Nat):Int)=((X+X / 256+(X+X / 256) / 65536:Nat):Int) from rfl,e6];rw[ahp _ g2',aj6,← g1']
theorem aiL{x:Int}(h:bK x)(σ:Hp):ACalls Tryz.prog 306 [.int .u64 x] σ (aC (.int .i64 (uM x.toNat)) σ):=by
 refine ay Tryz.func306 ?_;have hv:=ad5 (uO h);rw[zy h]at hv;refine aJ.mk (by decide) ?_;refine dZ ?_;refine dZ ?_;refine dZ ?_;refine dZ ?_;refine dZ ?_;exact .done ⟨aT hv,rfl⟩
def hasB(a:List Int)(n:Nat):Bool:=(wd a (n / 64)).toNat.testBit (n % 64)
def dD(f:Int→Int→Int)(a b:List Int):List Int:=(List.range (max a.length b.length)).map fun i=>f (wd a i) (wd b i)
theorem qI(f:Int→Int→Int)(a b:List Int):(dD f a b).length=max a.length b.length:=by simp[dD]
theorem zw(f:Int→Int→Int)(a b:List Int){i:Nat}(h:i<max a.length b.length):wd (dD f a b) i=f (wd a i) (wd b i):=by
 unfold dD wd;rw[fk,vH h];rfl
theorem zx{a:List Int}{i:Nat}(h:a.length≤i):wd a i=0:=by unfold wd;rw[vJ h];rfl
theorem lC(b:List Int){i:Nat}(h:i<b.length):wd b i=b[i]:=by unfold wd;rw[bB h];rfl
theorem zH{a b:List Int}(hl:a.length=b.length)(h:∀i,i<a.length→wd a i=wd b i):a=b:=by
 refine C8 hl fun i h1 h2=>?_;have:=h i h1;rw[lC a h1,lC b h2]at this;exact this
theorem Eu{n:Nat}{f:Nat→Int}(h:∀i,i<n→bK (f i)):bh ((List.range n).map f):=fun z hz=>by
 obtain⟨i,hi,rfl⟩:=cX.1 hz;exact h i (fF.1 hi)
abbrev iH(x y:Int):Int:=bits .or .u64 x y
abbrev fR(x y:Int):Int:=bits .andNot .u64 x y
theorem Wo(x y:Int):bK (iH x y):=D6 _
theorem I0(x y:Int):bK (fR x y):=D6 _
theorem toNat_ofInt{z:Int}(h:bK z):(BitVec.ofInt 64 z).toNat=z.toNat:=by
 have:=uO h;rw[BitVec.toNat_ofInt];unfold bK at h;omega
theorem MZ{x y:Int}(hx:bK x)(hy:bK y)(k:Nat):(iH x y).toNat.testBit k=(x.toNat.testBit k||y.toNat.testBit k):=by
 have e:iH x y=((BitVec.ofInt 64 x ||| BitVec.ofInt 64 y).toNat:Int):=by
  show IntKind.u64.wrap _=_;exact zG (BitVec.isLt _)
 rw[e,bG,BitVec.toNat_or,KJ,toNat_ofInt hx,toNat_ofInt hy]
theorem IC{x y:Int}(hx:bK x)(hy:bK y){k:Nat}(hk:k<64):(fR x y).toNat.testBit k=(x.toNat.testBit k&&!y.toNat.testBit k):=by
 have e:fR x y=((BitVec.ofInt 64 x &&& ~~~BitVec.ofInt 64 y).toNat:Int):=by
  show IntKind.u64.wrap _=_;exact zG (BitVec.isLt _)
 rw[e,bG,BitVec.testBit_toNat,BitVec.getLsbD_and,BitVec.getLsbD_not,bu hk,AJ,← BitVec.testBit_toNat,← BitVec.testBit_toNat,toNat_ofInt hx,toNat_ofInt hy]
def gh(T:List Int)(n:Nat):List Int:=(List.range T.length).map fun i=>(((wd T i).toNat % 2 ^ min 64 (n-64*i):Nat):Int)
theorem qJ(T:List Int)(n:Nat):(gh T n).length=T.length:=by simp[gh]
theorem zI(T:List Int)(n:Nat){i:Nat}(h:i<T.length):wd (gh T n) i=(((wd T i).toNat % 2 ^ min 64 (n-64*i):Nat):Int):=by
 unfold gh;unfold wd;rw[fk,vH h];rfl
theorem HQ(T:List Int):gh T 0=List.replicate T.length 0:=by
 refine List.ext_getElem (by simp[gh]) fun i h1 h2=>?_;rw[List.getElem_replicate,← lC _ h1,zI T 0 (by simpa [gh]using h1),Nat.zero_sub,Nat.min_zero,Nat.pow_zero,Nat.mod_one];rfl
theorem Vo{T:List Int}(hT:bh T):gh T (64*T.length)=T:=by
 refine zH (qJ _ _) fun i hi=>?_;rw[qJ]at hi;rw[zI T _ hi,show min 64 (64*T.length-64*i)=64 by omega];have h:=lG hT i;rw[vE (uO h),zy h]
theorem mod_succ(x k:Nat):x % 2 ^ (k+1)=if x.testBit k then x % 2 ^ k ||| 2 ^ k else x % 2 ^ k:=by
 refine C3 fun i=>?_;cases hb:x.testBit k with
 |false=>
  rw[ag (by decide),K6,K6]
  by_cases h1:i<k
  ·rw[bu (show i<k+1 by omega),bu h1]
  ·by_cases h2:i=k
   ·subst h2;rw[hb];simp
   ·rw[cf (show ¬i<k+1 by omega),cf h1]
 |true=>
  rw[af rfl,KJ,K6,K6,Qf]
  by_cases h1:i<k
  ·rw[decide_eq_true (show i<k+1 by omega),decide_eq_true h1,decide_eq_false (show ¬k=i by omega)];simp
  ·by_cases h2:i=k
   ·subst h2;rw[hb];simp
   ·rw[cf (show ¬i<k+1 by omega),cf h1,cf (show ¬k=i by omega)];rfl
theorem Mo{T:List Int}{n:Nat}(h:n<64*T.length):gh T (n+1)=if hasB T n then (gh T n).set (n / 64) (iH (wd (gh T n) (n / 64)) ((2 ^ (n % 64):Nat):Int)) else gh T n:=by
 have hi:n / 64<T.length:=by omega
 have hk:n % 64<64:=mU _ (by decide)
 have ab:∀m,(wd T (n / 64)).toNat % 2 ^ min 64 m<18446744073709551616:=fun m=>by
  have h1:(wd T (n / 64)).toNat % 2 ^ min 64 m<2 ^ min 64 m:=mU _ (CV _);have h2:2 ^ min 64 m≤2 ^ 64:=vI (by decide) (Nat.min_le_left _ _);have h3:(2:Nat) ^ 64=18446744073709551616:=by decide
  omega
 have hp:2 ^ (n % 64)<18446744073709551616:=by
  have h2:2 ^ (n % 64)<2 ^ 64:=Nat.pow_lt_pow_right (by decide) hk;exact h2
 have e1:min 64 (n-64*(n / 64))=n % 64:=by omega
 have e2:min 64 (n+1-64*(n / 64))=n % 64+1:=by omega
 have hm:=mod_succ (wd T (n / 64)).toNat (n % 64);have Wt:∀i,i≠n / 64→min 64 (n+1-64*i)=min 64 (n-64*i):=fun i aS=>by omega
 unfold hasB;refine zH ?_ fun i Ks=>?_
 ·rw[qJ];split
  ·rw[cz,qJ]
  ·rw[qJ]
 ·rw[qJ]at Ks;rw[zI T _ Ks];cases hb:(wd T (n / 64)).toNat.testBit (n % 64) with
  |true=>
   rw[hb,af rfl]at hm;rw[af rfl]
   by_cases hc:i=n / 64
   ·subst hc
    have hs:wd ((gh T n).set (n / 64) (iH (wd (gh T n) (n / 64)) ((2 ^ (n % 64):Nat):Int))) (n / 64)=iH (wd (gh T n) (n / 64)) ((2 ^ (n % 64):Nat):Int):=by
     unfold wd;rw[List.getElem?_set_self (by rw[qJ];exact hi)];rfl
    have aji:=ab (n-64*(n / 64));rw[hs,zI T n hi,show iH _ _=_ from tX aji hp,e2,e1,hm]
   ·have hs:wd ((gh T n).set (n / 64) (iH (wd (gh T n) (n / 64)) ((2 ^ (n % 64):Nat):Int))) i=wd (gh T n) i:=by
     unfold wd;rw[Qh (fun h=>hc h.symm)]
    rw[hs,zI T n Ks,Wt i hc]
  |false=>
   rw[hb,ag (by decide)]at hm;rw[ag (by decide),zI T n Ks]
   by_cases hc:i=n / 64
   ·subst hc;rw[e2,e1,hm]
   ·rw[Wt i hc]
def eI(w:Int):Nat:=(min (max w 0) 1024).toNat
def ef(w:Int):Nat:=(eI w+63) / 64
theorem Iz(w:Int):eI w≤1024:=by unfold eI;omega
theorem Bn(w:Int):ef w≤16:=by have:=Iz w;unfold ef;omega
theorem UO(n:Int):(if (1024:Int)<(if n<0 then 0 else n) then (1024:Int) else (if n<0 then 0 else n))=((eI n:Nat):Int):=by
 unfold eI
 by_cases h:n<0
 ·simp only[af h];omega
 ·simp only[ag h];split <;> omega
def fv(w:Int):List Int:=(List.range (ef w)).map fun i=>((2 ^ min 64 (eI w-64*i)-1:Nat):Int)
theorem nM(w:Int):(fv w).length=ef w:=by simp[fv]
theorem DY(w:Int){i:Nat}(h:i<ef w):wd (fv w) i=((2 ^ min 64 (eI w-64*i)-1:Nat):Int):=by
 unfold fv wd;rw[fk,vH h];rfl
theorem ai3(m:Nat):2 ^ min 64 m≤18446744073709551616:=vI (by decide) (Nat.min_le_left _ _)
theorem UI(w:Int):bh (fv w):=Eu fun i _=>aeH (by
 have:=ai3 (eI w-64*i);have:=CV (min 64 (eI w-64*i))
 omega)
def gK(a:List Int)(w:Int):Bool:=decide (a.length=ef w)&&(List.range a.length).all fun i=>decide ((wd a i).toNat<2 ^ min 64 (eI w-64*i))
theorem aby{a:List Int}{w:Int}(mw:bh a)(hl:a.length=ef w):gK a w=true↔∀n,eI w≤n→n<64*a.length→hasB a n=false:=by
 unfold gK hasB;rw[bu hl,AJ,fG];constructor
 ·intro h n h1 h2;have hi:n / 64<a.length:=by omega
  have:=h (n / 64) (fF.2 hi);simp only[decide_eq_true_eq]at this;refine xA (sL this (vI (by decide) ?_));omega
 ·intro h i hi;have hi:=fF.1 hi;rw[decide_eq_true_eq];have X9:=uO (lG mw i)
  rcases xp (eI w-64*i) 64 with hc | hc
  ·rw[Nat.min_eq_right (by omega)];refine Nat.lt_pow_two_of_testBit _ fun k hk=>?_
   rcases xp k 64 with eD | eD
   ·have:=h (64*i+k) (by omega) (by omega);rw[show (64*i+k) / 64=i by omega,show (64*i+k) % 64=k by omega]at this;exact this
   ·refine xA (sL X9 ?_);exact vI (by decide:0<2) eD
  ·rw[K5 hc];exact X9
theorem abx{a:List Int}{w:Int}(mw:bh a)(hl:a.length=ef w):gK a w=true↔∀i,i<a.length→fR (wd a i) (wd (fv w) i)=0:=by
 unfold gK;rw[bu hl,AJ,fG]
 have hf:∀i,i<a.length→((wd a i).toNat<2 ^ min 64 (eI w-64*i)↔fR (wd a i) (wd (fv w) i)=0):=by
  intro i hi;have ha:=lG mw i;have hb:=lG (UI w) i;have hn:(wd (fv w) i).toNat=2 ^ min 64 (eI w-64*i)-1:=by rw[DY w (by omega),bG]
  constructor
  ·intro h
   have hz:(fR (wd a i) (wd (fv w) i)).toNat=0:=by
    refine C3 fun k=>?_;rw[Nat.zero_testBit]
    rcases xp k 64 with hk | hk
    ·rw[IC ha hb hk,hn,K8]
     by_cases eD:k<min 64 (eI w-64*i)
     ·rw[decide_eq_true eD];simp
     ·rw[xA (sL h (vI (by decide) (by omega)))];rfl
    ·exact xA (sL (uO (I0 _ _)) (vI (by decide:0<2) hk))
   have:=zy (I0 (wd a i) (wd (fv w) i));omega
  ·intro h;refine Nat.lt_pow_two_of_testBit _ fun k hk=>?_
   rcases xp k 64 with eD | eD
   ·have hz:=IC ha hb eD;rw[h,hn,K8,cf (by omega)]at hz;have h0:(0:Int).toNat.testBit k=false:=Nat.zero_testBit k;rw[h0]at hz;simpa using hz.symm
   ·exact xA (sL (uO ha) (vI (by decide:0<2) eD))
 constructor
 ·intro h i hi;exact (hf i hi).1 (by simpa using h i (List.mem_range.2 hi))
 ·intro h i hi;have hi:=fF.1 hi;rw[decide_eq_true_eq];exact (hf i hi).2 (h i hi)
theorem VU(a:List Int)(i:Nat)(σ:Hp):ACalls Tryz.prog 334 [.ah (.int .u64) a,.int .i64 i] σ (aC (.int .u64 (wd a i)) σ):=by
 refine ay Tryz.func334 ?_;refine ao (fun c=>?_) (fun c=>?_)
 ·have c:(a.length:Int)≤(i:Int):=c;exact .done ⟨aT (zx (by omega)).symm,rfl⟩
 ·have c:i<a.length:=by have c:¬(a.length:Int)≤(i:Int):=c;omega
  refine aJ.mk rfl (bO.mk a[i] (by omega) (get_some c) ?_);exact .done ⟨aT (lC a c).symm,rfl⟩
theorem W3(n:Int)(σ:Hp):ACalls Tryz.prog 210 [.int .i64 n] σ (aC (.int .i64 (eI n)) σ):=by
 refine ay Tryz.func210 ?_;exact .done ⟨aT (UO n),rfl⟩
theorem acE(n:Int):(IntKind.i64.wrap (IntKind.i64.wrap ((eI n:Nat)+64)-1)).tdiv 64=((ef n:Nat):Int):=by
 have:=Iz n;rw[IntKind.wrap_i64,IntKind.wrap_i64];unfold ef;rw[C7 (by omega)];omega
theorem Sk(n:Int):IntKind.i64.wrap ((ef n:Nat):Int)=((ef n:Nat):Int):=by
 have:=Bn n;rw[IntKind.wrap_i64];omega
theorem ID(n:Int)(σ:Hp):ACalls Tryz.prog 153 [.int .i64 n] σ (aC (.int .i64 (ef n)) σ):=by
 refine ay Tryz.func153 ?_;refine ax [] (W3 n _) ?_;refine aJ.mk (by decide) ?_;exact .done ⟨aT (by rw[acE,Sk]),rfl⟩
theorem W5(g:FuncId)(f:Int→Int→Int)(hg:∀(x y:Int) (σ:Hp),ACalls Tryz.prog g [.int .u64 x,.int .u64 y] σ (aC (.int .u64 (f x y)) σ))(a b:List Int)(σ:Hp)(ha:a.length≤100000)(hb:b.length≤100000):ACalls Tryz.prog 307 [.ah (.int .u64) a,.ah (.int .u64) b,.fn (.func g) [] []] σ (aC (.ah (.int .u64) (dD f a b)) σ):=by
 refine ay Tryz.func307 ?_;obtain⟨n,hn⟩:∃n,n=max a.length b.length:=⟨_,rfl⟩
 have mc:(if (a.length:Int)<b.length then (b.length:Int) else a.length)=(n:Int):=by split <;> omega
 have pF:(dD f a b).length=n:=by rw[qI,hn]
 refine .wrap 7 _ rfl rfl ?_;refine ca (S:=Nat×AV×Hp) (fun s=>[(0,.ah (.int .u64) a),(1,.ah (.int .u64) b),(2,.fn (.func g) [] []),(7,.via s.2.1),(13,.int .i64 n),(14,.int .i64 s.1)]) (fun s=>s.2.2++σ) (fun s=>s.1≤n∧Acc 1 s.1 s.2.1 s.2.2 (aR ((dD f a b).take s.1))) (fun s=>n-s.1) (0,.an,[]) ⟨⟨bC _,.nil⟩,⟨rfl,rfl,rfl,rfl,aT mc,rfl,trivial⟩,rfl⟩ ?_;rintro⟨k,v,acc⟩ s ⟨aP,ig⟩;have hk:k≤n:=aP;have cj:Acc 1 k v acc (aR ((dD f a b).take k)):=ig;clear aP ig;refine ao (fun ab=>?_) (fun au=>?_)
 ·have ab:k<n:=by have ab:(k:Int)<n:=ab;omega
  have he:(dD f a b)[k]'(by omega)=f (wd a k) (wd b k):=by rw[← lC,zw f a b (by omega)]
  refine ax [] (VU a k _) ?_;refine ax [] (VU b k _) ?_;refine ax [] (hg _ _ _) ?_;intro aF;refine iC [_] cj (.ae 0 aF 0 1 _ rfl (cy rfl)) rfl (by omega) (by decide) (by decide) (fun v' aY h'=>?_);refine a8 (k+1,v',aY) (by show n-(k+1)<n-k;omega) ⟨ab,?_⟩ ⟨rfl,rfl,rfl,rfl,rfl,aX (by omega),trivial⟩ (.drop 0 1 (aL rfl));show Acc 1 (k+1) v' aY (aR ((dD f a b).take (k+1)));rw[ft (by omega),he,aR,cF];exact h'
 ·have au:k=n:=by have au:¬(k:Int)<n:=au;omega
  subst au;rw[eR (by omega)]at cj;exact rX (s:=.int .u64) (l:=dD f a b) [] cj pF.symm (by rw[lA]) (by decide) (.done ⟨rfl,rfl⟩)
theorem ag5(x y:Int)(σ:Hp):ACalls Tryz.prog 328 [.int .u64 x,.int .u64 y] σ (aC (.int .u64 (iH x y)) σ):=by
 refine ay Tryz.func328 ?_;exact .done ⟨rfl,rfl⟩
theorem agl(x y:Int)(σ:Hp):ACalls Tryz.prog 308 [.int .u64 x,.int .u64 y] σ (aC (.int .u64 (fR x y)) σ):=by
 refine ay Tryz.func308 ?_;exact .done ⟨rfl,rfl⟩
theorem ahv(a b:List Int)(σ:Hp)(ha:a.length≤100000)(hb:b.length≤100000):ACalls Tryz.prog 300 [.ah (.int .u64) a,.ah (.int .u64) b] σ (aC (.ah (.int .u64) (dD iH a b)) σ):=by
 refine ay Tryz.func300 ?_;refine ax [] (W5 _ _ ag5 a b _ ha hb) ?_;exact .done ⟨rfl,rfl⟩
theorem WR(a b:List Int)(σ:Hp)(ha:a.length≤100000)(hb:b.length≤100000):ACalls Tryz.prog 284 [.ah (.int .u64) a,.ah (.int .u64) b] σ (aC (.ah (.int .u64) (dD fR a b)) σ):=by
 refine ay Tryz.func284 ?_;refine ax [] (W5 _ _ agl a b _ ha hb) ?_;exact .done ⟨rfl,rfl⟩
theorem Od(n:Nat)(h:n≤100000000):IntKind.i64.wrap ((n:Int).tdiv 64)=((n / 64:Nat):Int):=by
 rw[C7 (by omega),IntKind.wrap_i64];omega
theorem NW(n:Nat):(n:Int).tmod 64=((n % 64:Nat):Int):=by
 rw[tR (by omega)];omega
theorem Xd(k:Nat)(h:k<64):IntKind.u64.wrap (1*2 ^ min ((k:Nat):Int).toNat IntKind.u64.bits)=((2 ^ k:Nat):Int):=by
 have e:min ((k:Nat):Int).toNat IntKind.u64.bits=k:=by show min k 64=k;omega
 rw[e,Int.one_mul,show ((2:Int) ^ k)=((2 ^ k:Nat):Int) by rw[Int.natCast_pow];rfl];exact zG (sL (Nat.pow_lt_pow_right (by decide) h) (aQ _))
theorem BO{l:List Int}{i:Nat}(h:i<l.length)(x:Int){z:Int}(hz:z=i):kO ⟨.int .u64,1,8,[.int .u64 0]⟩ (aR l) (0+z.toNat*1) (.int .u64 x)=some (aR (l.set i x)):=by
 subst hz;have e:0+((i:Int)).toNat*1=i:=by omega
 rw[e];have h2:Nat.ble (i+1) (aR l).length=true:=Nat.ble_eq_true_of_le (by simp[aR];omega);show (match Nat.beq 1 1,Nat.ble (i+1) (aR l).length with | true,true=>some (fx (aR l) i [.int .u64 x]) | _,_=>none)=_;rw[h2];show some ((aR l).set i (.int .u64 x))=_;simp[aR,List.map_set]
theorem Jf{l:List Int}{i:Nat}(h:i<l.length){z:Int}(hz:z=i):ei ⟨.int .u64,1,8,[.int .u64 0]⟩ (aR l) (0+z.toNat*1)=some (.int .u64 (wd l i)):=by
 subst hz;have e:0+((i:Int)).toNat*1=i:=by omega
 rw[e];show (aR l)[i]?=_;unfold aR wd;rw[fk,bB h];rfl
theorem S9(w:Int){n:Nat}(h:n<eI w):gh (fv w) (n+1)=(gh (fv w) n).set (n / 64) (iH (wd (gh (fv w) n) (n / 64)) ((2 ^ (n % 64):Nat):Int)):=by
 have hs:(fv w).length=ef w:=nM w;have hl:n<64*(fv w).length:=by rw[hs];unfold ef;omega
 have hb:hasB (fv w) n=true:=by
  unfold hasB;rw[DY w (by unfold ef;omega),bG,K8];exact bu (by omega)
 rw[Mo hl,af hb]
theorem UH(w:Int):gh (fv w) (eI w)=fv w:=by
 refine zH (qJ _ _) fun i hi=>?_;rw[qJ]at hi;rw[zI _ _ hi];rw[nM]at hi;rw[DY w hi,bG,vE];have:=CV (min 64 (eI w-64*i));omega
theorem XC(w:Int)(σ:Hp):ACalls Tryz.prog 203 [.int .i64 w] σ (aC (.ah (.int .u64) (fv w)) σ):=by
 refine ay Tryz.func203 ?_;have eO:=Bn w;have PE:=Iz w;refine ax [] (ID w _) ?_;refine bf ?_;intro q;refine ax [] (W3 w _) ?_;refine ca (S:=Nat) (fun s=>[(3,.ae q 0 (ef w) 1),(9,.int .i64 (eI w)),(10,.int .i64 s)]) (fun s=>(q,aR (gh (fv w) s))::σ) (fun s=>s≤eI w) (fun s=>eI w-s) 0 ⟨bC _,⟨rfl,rfl,rfl,trivial⟩,?_⟩ ?_
 ·show (q,cI [.int .u64 0] (((ef w:Nat):Int)).toNat)::σ=(q,aR (gh (fv w) 0))::σ;rw[HQ,nM,bG,x7]
 intro n g gw;have hn:n≤eI w:=gw;clear gw;refine ao (fun ab=>?_) (fun au=>?_)
 ·have ab:n<eI w:=by have ab:(n:Int)<eI w:=ab;omega
  have hi:n / 64<(gh (fv w) n).length:=by rw[qJ,nM];unfold ef;omega
  have qz:n / 64<ef w:=by unfold ef;omega
  have hd:=Od n (by omega);have hm:=NW n;refine .sched [] (upto [] 11 0) (by kernel_rfl) ?_;refine dZ ?_;refine aO ?_;refine aW 0 rfl (Jf hi hd) ?_;have GS:=Xd (n % 64) (by omega);rw[← hm]at GS;refine dZ ?_;refine dZ ?_;refine aO ?_;refine cU 0 rfl (BO hi _ hd) ?_;refine a8 (n+1) (by show eI w-(n+1)<eI w-n;omega) ab ⟨rfl,rfl,aX (by omega),trivial⟩ (aL ?_);rw[S9 w ab,← GS];rfl
 ·have au:n=eI w:=by have au:¬(n:Int)<eI w:=au;omega
  subst au;rw[UH];exact .cN 0 q 0 (ef w) 1 _ (.int .u64) (fv w) rfl (by rw[List.drop_zero,← lA];exact List.take_of_length_le (by simp[aR,nM])) ⟨nM w,rfl,by decide⟩ .here (.done ⟨rfl,rfl⟩)
def pr(a:List Int):Nat:=(a.map fun z=>uM z.toNat).sum
theorem afQ(a:List Int):pr a≤64*a.length:=by
 unfold pr
 induction a with
 |nil=>simp
 |cons x a ih=>have:=af9 x.toNat;simp only[pJ,KE,gj];omega
theorem abJ(a:List Int){k:Nat}(h:k<a.length):pr (a.take (k+1))=pr (a.take k)+uM (a[k]).toNat:=by
 unfold pr;rw[List.take_succ_eq_append_getElem h,List.map_append,List.sum_append];simp
theorem abI{a:List Int}(ha:bh a):pr a=0↔∀i,i<a.length→wd a i=0:=by
 unfold pr;rw[List.sum_eq_zero_iff_forall_eq_nat];constructor
 ·intro h i hi;have h1:=h _ (cX.2 ⟨a[i],cq hi,rfl⟩);have:=aaV (uO (ha _ (cq hi))) h1;have hw:=zy (ha _ (cq hi));rw[lC a hi,← hw,this];rfl
 ·intro h x hx;obtain⟨z,hz,rfl⟩:=cX.1 hx;obtain⟨i,hi,rfl⟩:=xz.1 hz;have:=h i hi;rw[lC a hi]at this;rw[this];rfl
theorem aiC{a b:Nat}(h:a+b<1000000000):IntKind.i64.wrap ((a:Int)+(b:Int))=((a+b:Nat):Int):=by rw[IntKind.wrap_i64];omega
theorem ahM(a:List Int)(σ:Hp)(hl:a.length≤100000)(ha:bh a):ACalls Tryz.prog 283 [.ah (.int .u64) a] σ (aC (.int .i64 (pr a)) σ):=by
 refine ay Tryz.func283 ?_;refine ca (S:=Nat) (fun s=>[(3,.int .i64 (pr (a.take s))),(6,.ah (.int .u64) a),(7,.int .i64 a.length),(8,.int .i64 s)]) (fun _=>σ) (fun s=>s≤a.length) (fun s=>a.length-s) 0 ⟨bC _,⟨rfl,rfl,rfl,rfl,trivial⟩,rfl⟩ ?_;intro k g aP;have hk:k≤a.length:=aP;clear aP;refine ao (fun ab=>?_) (fun au=>?_)
 ·have ab:k<a.length:=by have ab:(k:Int)<a.length:=ab;omega
  refine aJ.mk rfl (bO.mk a[k] (by omega) (get_some ab) ?_);refine ax [] (aiL (ha _ (cq ab)) _) ?_;have h1:=afQ (a.take (k+1));have h2:=abJ a ab;rw[tO]at h1;refine a8 (k+1) (by show a.length-(k+1)<a.length-k;omega) ab ⟨aT (by rw[h2];exact aiC (by omega)),rfl,rfl,aX (by omega),trivial⟩ (.refl _)
 ·have au:k=a.length:=by have au:¬(k:Int)<a.length:=au;omega
  subst au;rw[ga];exact .done ⟨rfl,rfl⟩
theorem Bp(a b:List Int):bh (dD fR a b):=Eu fun _ _=>I0 _ _
theorem afZ(a b:List Int)(σ:Hp)(ha:a.length≤10000)(hb:b.length≤10000):ACalls Tryz.prog 249 [.ah (.int .u64) a,.ah (.int .u64) b] σ (aC (.bool (decide (pr (dD fR a b)=0))) σ):=by
 refine ay Tryz.func249 ?_;refine ax [] (WR a b _ (by omega) (by omega)) ?_;refine ax [] (ahM _ _ (by rw[qI];omega) (Bp a b)) ?_;refine ao (fun c=>?_) (fun c=>?_)
 ·have c:pr (dD fR a b)=0:=by have c:((pr (dD fR a b):Nat):Int)=0:=c;omega
  exact .done ⟨cY (bu c).symm,rfl⟩
 ·have c:pr (dD fR a b)≠0:=by have c:¬((pr (dD fR a b):Nat):Int)=0:=c;omega
  exact .done ⟨cY (cf c).symm,rfl⟩
theorem YS{a:List Int}{w:Int}(mw:bh a)(hl:a.length=ef w):decide (pr (dD fR a (fv w))=0)=gK a w:=by
 rw[Bool.eq_iff_iff,decide_eq_true_eq,abI (Bp _ _),abx mw hl,qI,nM,hl,Nat.max_self];refine⟨fun h i hi=>?_,fun h i hi=>?_⟩
 ·rw[← zw fR a (fv w) (by rw[hl];omega)];exact h i hi
 ·rw[zw fR a (fv w) (by rw[hl];omega)];exact h i hi
theorem Es(a:List Int)(w:Int)(σ:Hp)(mw:bh a)(ha:a.length≤10000):ACalls Tryz.prog 199 [.ah (.int .u64) a,.int .i64 w] σ (aC (.bool (gK a w)) σ):=by
 refine ay Tryz.func199 ?_;refine ax [] (ID w _) ?_;have eO:=Bn w;refine ao (fun c=>?_) (fun c=>?_)
 ·have c:a.length=ef w:=by have c:(a.length:Int)=ef w:=c;omega
  refine ax [] (XC w _) ?_;refine ax [] (afZ a _ _ ha (by rw[nM];omega)) ?_;exact .done ⟨cY (YS mw c),rfl⟩
 ·have c:a.length≠ef w:=by have c:¬(a.length:Int)=ef w:=c;omega
  have hf:gK a w=false:=by unfold gK;rw[cf c];rfl
  rw[hf];exact .done ⟨rfl,rfl⟩
theorem VV(n:Int)(σ:Hp):ACalls Tryz.prog 165 [.int .i64 n] σ (aC (.int .i64 (eI n)) σ):=by
 refine ay Tryz.func165 ?_;exact .done ⟨aT (UO n),rfl⟩
theorem aaG(n:Int):(IntKind.i64.wrap ((eI n:Nat)+63)).tdiv 64=((ef n:Nat):Int):=by
 have:=Iz n;rw[IntKind.wrap_i64];unfold ef;rw[C7 (by omega)];omega
theorem WO(n:Int)(σ:Hp):ACalls Tryz.prog 115 [.int .i64 n] σ (aC (.int .i64 (ef n)) σ):=by
 refine ay Tryz.func115 ?_;refine ax [] (VV n _) ?_;refine aJ.mk (by decide) ?_;exact .done ⟨aT (by rw[aaG,Sk]),rfl⟩
theorem afC{x:Int}(ha:bK x){k:Nat}(h:k<64){z:Int}(hz:z=k):(bits .and .u64 (x.fdiv (2 ^ min z.toNat IntKind.u64.bits)) 1=1)↔x.toNat.testBit k=true:=by
 subst hz;have e:min ((k:Int)).toNat IntKind.u64.bits=k:=by show min k 64=k;omega
 have hw:=zy ha;rw[← hw,H4 _ _ _ e];have ab:=uO ha;rw[show (1:Int)=((1:Nat):Int) from rfl,rP (AL (Nat.div_le_self _ _) ab) (by decide)];rw[bG,Nat.and_one_is_mod,Nat.testBit_eq_decide_div_mod_eq,decide_eq_true_eq];omega
theorem Jp(a:List Int)(n:Nat)(σ:Hp)(mw:bh a)(hn:n≤1000000):ACalls Tryz.prog 178 [.ah (.int .u64) a,.int .i64 n] σ (aC (.bool (hasB a n)) σ):=by
 refine ay Tryz.func178 ?_;have hd:=Od n (by omega);have hm:=NW n;refine dZ ?_;refine ao (fun c1=>?_) (fun c1=>?_)
 ·have c1:IntKind.i64.wrap ((↑n:Int).tdiv 64)<(↑a.length:Int):=c1;refine dZ ?_;have hi:n / 64<a.length:=by omega
  refine aJ.mk rfl (bO.mk a[n / 64] (by omega) (by rw[hd];exact get_some hi) ?_);have hq:=afC (ha:=mw _ (cq hi)) (k:=n % 64) (by omega) hm;have hb:hasB a n=a[n / 64].toNat.testBit (n % 64):=by unfold hasB;rw[lC a hi]
  refine dZ ?_;refine dZ ?_;refine ao (fun c2=>.done ⟨cY ?_,rfl⟩) (fun c2=>.done ⟨cY ?_,rfl⟩)
  ·rw[hb];exact (hq.1 c2).symm
  ·rw[hb];exact (GI.2 fun h=>c2 (hq.2 h)).symm
 ·have c1:¬(IntKind.i64.wrap ((↑n:Int).tdiv 64)<(↑a.length:Int)):=c1;have hb:hasB a n=false:=by unfold hasB;rw[zx (by omega)];simp
  rw[hb];exact .done ⟨rfl,rfl⟩
theorem NH(l:List Int)(n q len:Nat)(σ:Hp)(hl:l.length=len)(hm:len≤10000)(hn:n / 64<len):ACalls Tryz.prog 280 [.ae q 0 len 1,.int .i64 n] ((q,aR l)::σ) (fun r σ'=>∃b,r=.ae b 0 len 1∧σ'=(b,aR (l.set (n / 64) (iH (wd l (n / 64)) ((2 ^ (n % 64):Nat):Int))))::(q,aR l)::σ):=by
 refine ay Tryz.func280 ?_;have hd:=Od n (by omega);have hm:=NW n;intro aF;have ajm:(aR l).length=len*1:=by simp[aR,hl]
 have hle:0+len*1≤(aR l).length:=by omega
 have jh:((aR l).drop 0).take (len*1)=aR l:=eR (by rw[gR];omega);refine iC [] (acc:=[(aF,[])]) (k:=0) (cs:=[]) (n:=len) (.ae aF 0 [] rfl) (.ae 1 q 0 len (aR l) rfl hle) (by rw[jh];exact ajm) (by omega) (by decide) (by decide) (fun v' aY h'=>?_);rw[dI,jh,vD]at h';generalize jL:aR l=cs at h';cases h' with
 |nil=>omega
 |ae b k cs h=>
 subst jL;have hi:n / 64<l.length:=by omega
 refine .sched [] (upto [] 14 0) (by kernel_rfl) ?_;refine dZ ?_;refine dZ ?_;refine aO ?_;refine aW 0 rfl (Jf hi hd) ?_;have GS:=Xd (n % 64) (by omega);rw[← hm]at GS;refine dZ ?_;refine dZ ?_;refine aO ?_;refine cU 0 rfl (BO hi _ hd) ?_;rw[← GS];exact .done ⟨_,rfl,rfl⟩
set_option maxHeartbeats 4000000 in
theorem agy(a b:List Int)(σ:Hp)(ha:bh a)(hb:bh b)(la:a.length≤10000)(lb:b.length≤10000):ACalls Tryz.prog 263 [.ah (.int .u64) a,.ah (.int .u64) b,.int .i64 1] σ (aC (.ah (.int .u64) (dD iH a b)) σ):=by
 refine ay Tryz.func263 ?_;obtain⟨n,hn⟩:∃n,n=max a.length b.length:=⟨_,rfl⟩
 have mc:(if (a.length:Int)<b.length then (b.length:Int) else a.length)=(n:Int):=by split <;> omega
 have hT:(dD iH a b).length=n:=by rw[qI,hn]
 have OO:bh (dD iH a b):=Eu fun _ _=>Wo _ _
 have OM:∀k,k<64*n→hasB (dD iH a b) k=((hasB a k).or (hasB b k)):=fun k hk=>by
  unfold hasB;rw[zw iH a b (by omega)];exact MZ (lG ha _) (lG hb _) _
 have hM:(0:Int)≤(if (a.length:Int)<b.length then (b.length:Int) else a.length)∧(if (a.length:Int)<b.length then (b.length:Int) else a.length)≤1048576:=by rw[mc];omega
 refine aJ.mk ⟨hM.1,kl _,hM.2,by decide⟩ ?_;intro q;refine ca (S:=Nat×Nat) (fun s=>[(0,.ah (.int .u64) a),(1,.ah (.int .u64) b),(2,.int .i64 1),(7,.ae s.2 0 n 1),(8,.int .i64 s.1)]) (fun s=>(s.2,aR (gh (dD iH a b) s.1))::σ) (fun s=>s.1≤64*n) (fun s=>64*n-s.1) (0,q) ⟨bC _,⟨rfl,rfl,rfl,?_,rfl,trivial⟩,?_⟩ ?_
 ·show AV.ae q 0 (if (a.length:Int)<b.length then (b.length:Int) else a.length).toNat 1=.ae q 0 n 1;rw[mc,bG]
 ·show (q,cI [.int .u64 0] (if (a.length:Int)<b.length then (b.length:Int) else a.length).toNat)::σ=(q,aR (gh (dD iH a b) 0))::σ;rw[mc,bG,HQ,hT,x7]
 rintro⟨k,p⟩ g aP;have hk:k≤64*n:=aP;clear aP;have hlen:(gh (dD iH a b) k).length=n:=by rw[qJ,hT]
 refine ao (fun ab=>?_) (fun au=>?_)
 ·have ab:k<64*n:=by
   have ab:(k:Int)<IntKind.i64.wrap (64*(n:Int)):=ab;rw[IntKind.wrap_i64]at ab;omega
  have hs:=Mo (T:=dD iH a b) (n:=k) (by omega);have qA:=OM k ab;refine eY [] (Jp a k _ ha (by omega)) (fun cA=>?_) (fun cA=>?_) <;> refine eY [] (Jp b k _ hb (by omega)) (fun cB=>?_) (fun cB=>?_) <;> rw[cA,cB]at qA <;> rw[qA]at hs
  all_goals first
   |(refine .mk [] _ (NH _ k _ _ _ hlen (by omega) (by omega)) ?_
     rintro r σ' ⟨b',rfl,rfl⟩;refine a8 (k+1,b') (by show 64*n-(k+1)<64*n-k;omega) ab ⟨rfl,rfl,rfl,rfl,aX (by omega),trivial⟩ (.drop 1 1 (aL ?_));rw[hs.trans (af rfl)]
     rfl)
   |(refine a8 (k+1,p) (by show 64*n-(k+1)<64*n-k;omega) ab ⟨rfl,rfl,rfl,rfl,aX (by omega),trivial⟩ (aL ?_)
     rw[hs.trans (ag (by decide))]
     rfl)
 ·have au:k=64*n:=by
   have au:¬(k:Int)<IntKind.i64.wrap (64*(n:Int)):=au;rw[IntKind.wrap_i64]at au;omega
  subst au;rw[← hT,Vo OO];exact .cN 0 p 0 _ 1 _ (.int .u64) (dD iH a b) rfl (by rw[List.drop_zero,← lA];exact List.take_of_length_le (by simp[aR];exact Nat.le_refl _)) ⟨rfl,rfl,by decide⟩ .here (.done ⟨rfl,rfl⟩)
set_option maxHeartbeats 4000000 in
theorem agx(a b:List Int)(σ:Hp)(ha:bh a)(hb:bh b)(la:a.length≤10000)(lb:b.length≤10000):ACalls Tryz.prog 263 [.ah (.int .u64) a,.ah (.int .u64) b,.int .i64 3] σ (aC (.ah (.int .u64) (dD fR a b)) σ):=by
 refine ay Tryz.func263 ?_;obtain⟨n,hn⟩:∃n,n=max a.length b.length:=⟨_,rfl⟩
 have mc:(if (a.length:Int)<b.length then (b.length:Int) else a.length)=(n:Int):=by split <;> omega
 have hT:(dD fR a b).length=n:=by rw[qI,hn]
 have OO:bh (dD fR a b):=Eu fun _ _=>I0 _ _
 have OM:∀k,k<64*n→hasB (dD fR a b) k=((hasB a k).and (!hasB b k)):=fun k hk=>by
  unfold hasB;rw[zw fR a b (by omega)];exact IC (lG ha _) (lG hb _) (by omega)
 have hM:(0:Int)≤(if (a.length:Int)<b.length then (b.length:Int) else a.length)∧(if (a.length:Int)<b.length then (b.length:Int) else a.length)≤1048576:=by rw[mc];omega
 refine aJ.mk ⟨hM.1,kl _,hM.2,by decide⟩ ?_;intro q;refine ca (S:=Nat×Nat) (fun s=>[(0,.ah (.int .u64) a),(1,.ah (.int .u64) b),(2,.int .i64 3),(7,.ae s.2 0 n 1),(8,.int .i64 s.1)]) (fun s=>(s.2,aR (gh (dD fR a b) s.1))::σ) (fun s=>s.1≤64*n) (fun s=>64*n-s.1) (0,q) ⟨bC _,⟨rfl,rfl,rfl,?_,rfl,trivial⟩,?_⟩ ?_
 ·show AV.ae q 0 (if (a.length:Int)<b.length then (b.length:Int) else a.length).toNat 1=.ae q 0 n 1;rw[mc,bG]
 ·show (q,cI [.int .u64 0] (if (a.length:Int)<b.length then (b.length:Int) else a.length).toNat)::σ=(q,aR (gh (dD fR a b) 0))::σ;rw[mc,bG,HQ,hT,x7]
 rintro⟨k,p⟩ g aP;have hk:k≤64*n:=aP;clear aP;have hlen:(gh (dD fR a b) k).length=n:=by rw[qJ,hT]
 refine ao (fun ab=>?_) (fun au=>?_)
 ·have ab:k<64*n:=by
   have ab:(k:Int)<IntKind.i64.wrap (64*(n:Int)):=ab;rw[IntKind.wrap_i64]at ab;omega
  have hs:=Mo (T:=dD fR a b) (n:=k) (by omega);have qA:=OM k ab;refine eY [] (Jp a k _ ha (by omega)) (fun cA=>?_) (fun cA=>?_) <;> refine eY [] (Jp b k _ hb (by omega)) (fun cB=>?_) (fun cB=>?_) <;> rw[cA,cB]at qA <;> rw[qA]at hs
  all_goals first
   |(refine .mk [] _ (NH _ k _ _ _ hlen (by omega) (by omega)) ?_
     rintro r σ' ⟨b',rfl,rfl⟩;refine a8 (k+1,b') (by show 64*n-(k+1)<64*n-k;omega) ab ⟨rfl,rfl,rfl,rfl,aX (by omega),trivial⟩ (.drop 1 1 (aL ?_));rw[hs.trans (af rfl)]
     rfl)
   |(refine a8 (k+1,p) (by show 64*n-(k+1)<64*n-k;omega) ab ⟨rfl,rfl,rfl,rfl,aX (by omega),trivial⟩ (aL ?_)
     rw[hs.trans (ag (by decide))]
     rfl)
 ·have au:k=64*n:=by
   have au:¬(k:Int)<IntKind.i64.wrap (64*(n:Int)):=au;rw[IntKind.wrap_i64]at au;omega
  subst au;rw[← hT,Vo OO];exact .cN 0 p 0 _ 1 _ (.int .u64) (dD fR a b) rfl (by rw[List.drop_zero,← lA];exact List.take_of_length_le (by simp[aR];exact Nat.le_refl _)) ⟨rfl,rfl,by decide⟩ .here (.done ⟨rfl,rfl⟩)
def aE(n:Int):Int:=(n+32768) % 65536-32768
theorem xR(n:Int): -32768≤aE n:=by unfold aE;omega
theorem xS(n:Int):aE n≤32767:=by unfold aE;omega
theorem Ry(n:Int):(0≤n∧n.tmod 65536=n % 65536)∨(n<0∧n.tmod 65536 = -((-n) % 65536)):=by
 by_cases h:0≤n
 ·exact .inl ⟨h,tR h⟩
 ·refine .inr ⟨by omega,?_⟩;have:=Int.neg_tmod (-n) 65536;rw[Int.neg_neg,tR (a:= -n) (by omega)]at this;exact this
theorem IS(n:Int)(σ:Hp):ACalls Tryz.prog 335 [.int .i64 n] σ (aC (.int .i64 (aE n)) σ):=by
 refine ay Tryz.func335 ?_;have hc:=Ry n;refine dZ ?_;refine ao (fun h1=>?_) (fun h1=>?_)
 ·have h1:32767<n.tmod 65536:=h1;exact .done ⟨aT (by rw[IntKind.wrap_i64];unfold aE;omega),rfl⟩
 ·have h1:¬(32767<n.tmod 65536):=h1;refine ao (fun h2=>?_) (fun h2=>?_)
  ·have h2:n.tmod 65536 < -32768:=h2;exact .done ⟨aT (by rw[IntKind.wrap_i64];unfold aE;omega),rfl⟩
  ·have h2:¬(n.tmod 65536 < -32768):=h2;exact .done ⟨aT (by unfold aE;omega),rfl⟩
theorem Wf(n:Int)(σ:Hp):ACalls Tryz.prog 261 [.int .i64 n] σ (aC (.int .i64 (aE n)) σ):=by
 refine ay Tryz.func261 ?_;have hc:=Ry n;have e:IntKind.i64.wrap (n.tmod 65536+98304)=n.tmod 65536+98304:=by rw[IntKind.wrap_i64];omega
 have e2:(n.tmod 65536+98304).tmod 65536=(n.tmod 65536+98304) % 65536:=tR (by omega);refine dZ ?_;refine dZ ?_;exact .done ⟨aT (by rw[e,e2,IntKind.wrap_i64];unfold aE;omega),rfl⟩
abbrev nC(x y:Int):List AV:=[.int .i64 x,.int .i64 y]
theorem Fv(a b:Int)(σ:Hp):ACalls Tryz.prog 309 [.int .i64 a,.int .i64 b] σ (aC (.agg (nC (aE a) (aE b))) σ):=by
 refine ay Tryz.func309 ?_;intro b1;refine ax [] (IS _ _) ?_;refine ax [] (IS _ _) ?_;refine aj 0 ?_;refine aa 0 ?_;exact .drop 0 1 (.done ⟨rfl,rfl⟩)
theorem yv(a b:Int)(σ:Hp):ACalls Tryz.prog 223 [.int .i64 a,.int .i64 b] σ (aC (.agg (nC (aE a) (aE b))) σ):=by
 refine ay Tryz.func223 ?_;intro b1;refine ax [] (Wf _ _) ?_;refine ax [] (Wf _ _) ?_;refine aj 0 ?_;refine aa 0 ?_;exact .drop 0 1 (.done ⟨rfl,rfl⟩)
theorem ajx(x y:Int)(σ:Hp):ACalls Tryz.prog 286 [.agg (nC x y)] σ (aC (.bool (decide (x=aE x)&&decide (y=aE y))) σ):=by
 refine ay Tryz.func286 ?_;intro aF;refine .quiet (by kernel_rfl) ?_;refine aa 0 ?_;refine aa 0 ?_;refine aa 0 ?_;refine aK [] (Fv _ _ _) ?_;refine EqAt.mk (by kernel_rfl) (by kernel_rfl) ?_
 have e:fW (uA (nC x y) (nC (aE x) (aE y)))=(decide (x=aE x)&&decide (y=aE y)):=by
  show (decide (x=aE x)&&(decide (y=aE y)&&true))=_;rw[KD]
 rw[← e];refine dX (fun c=>?_) (fun c=>?_)
 ·have c:fW (uA (nC x y) (nC (aE x) (aE y)))=true:=c;rw[c];exact .drop 0 1 (.done ⟨rfl,rfl⟩)
 ·have c:fW (uA (nC x y) (nC (aE x) (aE y)))=false:=c;rw[c];exact .drop 0 1 (.done ⟨rfl,rfl⟩)
theorem zu(x y:Int)(σ:Hp):ACalls Tryz.prog 364 [.agg (nC x y)] σ (aC (.gk (aE x) (aE y)) σ):=by
 have h1:=xR x;have h2:=xS x;have h3:=xR y;have h4:=xS y;refine ay Tryz.func364 ?_;intro aF;refine aa 0 ?_;refine aa 0 ?_;refine ax [] (Fv _ _ _) ?_;refine aj 0 ?_;refine aa 0 ?_;refine .mk (by unfold iF;omega) ?_;refine aa 0 ?_;refine .mk (by unfold iF;omega) ?_;exact .drop 0 1 (.done ⟨rfl,rfl⟩)
theorem Ws{x:Int}(h:iF x):IntKind.i64.min≤x∧x≤IntKind.i64.max:=by
 unfold iF at h;have e1:IntKind.i64.min = -9223372036854775808:=by decide
 have e2:IntKind.i64.max=9223372036854775807:=by decide
 rw[e1,e2];omega
theorem IT(x y:Int)(σ:Hp)(hx:iF x)(hy:iF y):ACalls Tryz.prog 363 [.gk x y] σ (aC (.agg (nC (aE x) (aE y))) σ):=by
 refine ay Tryz.func363 ?_;intro aF;refine .mk (Ws hx) ?_;refine .mk (Ws hy) ?_;refine ax [] (Fv _ _ _) ?_;refine aj 0 ?_;refine aa 0 ?_;exact .drop 0 1 (.done ⟨rfl,rfl⟩)
theorem HC{a b:Int}(ha : -32768≤a∧a≤32768)(hb : -32768≤b∧b≤32768): -1073741824≤a*b∧a*b≤1073741824:=by
 have h1:a.natAbs*b.natAbs≤32768*32768:=jN (by omega) (by omega);rw[← KI]at h1;omega
theorem Ez(a b c d:Int):(-32768≤aE a∧aE a≤32767)∧(-32768≤aE b∧aE b≤32767)∧(-32768≤aE c∧aE c≤32767)∧-32768≤aE d∧aE d≤32767:=
 ⟨⟨xR a,xS a⟩,⟨xR b,xS b⟩,⟨xR c,xS c⟩,xR d,xS d⟩
theorem XO(a b c d:Int):(-1073741824≤aE a*aE c∧aE a*aE c≤1073741824)∧(-1073741824≤aE b*aE d∧aE b*aE d≤1073741824)∧(-1073741824≤aE a*aE d∧aE a*aE d≤1073741824)∧-1073741824≤aE b*aE c∧aE b*aE c≤1073741824:=by
 have h:=Ez a b c d;exact⟨HC (by omega) (by omega),HC (by omega) (by omega),HC (by omega) (by omega),HC (by omega) (by omega)⟩
theorem ait(a b c d:Int)(σ:Hp):ACalls Tryz.prog 356 [.agg (nC a b),.agg (nC c d)] σ (aC (.agg (nC (aE (aE a+aE c)) (aE (aE b+aE d)))) σ):=by
 have hF:=Ez a b c d;refine ay Tryz.func356 ?_;intro aF;intro dJ;intro tU;refine .sched [1,3,5] (upto [1,3,5] 7 0) (by kernel_rfl) ?_;refine aa 2 ?_;refine aK [] (zu _ _ _) ?_;refine aa 1 ?_;refine aK [] (zu _ _ _) ?_;refine .mk (by unfold iF;omega) ?_;refine aK [] (IT _ _ _ (by unfold iF;omega) (by unfold iF;omega)) ?_;refine aj 0 ?_;refine aa 0 ?_;exact .drop 0 3 (.done ⟨rfl,rfl⟩)
theorem air(a b c d:Int)(σ:Hp):ACalls Tryz.prog 357 [.agg (nC a b),.agg (nC c d)] σ (aC (.agg (nC (aE (aE a-aE c)) (aE (aE b-aE d)))) σ):=by
 have hF:=Ez a b c d;refine ay Tryz.func357 ?_;intro aF;intro dJ;intro tU;refine .sched [1,3,5] (upto [1,3,5] 7 0) (by kernel_rfl) ?_;refine aa 2 ?_;refine aK [] (zu _ _ _) ?_;refine aa 1 ?_;refine aK [] (zu _ _ _) ?_;refine .mk (by unfold iF;omega) ?_;refine aK [] (IT _ _ _ (by unfold iF;omega) (by unfold iF;omega)) ?_;refine aj 0 ?_;refine aa 0 ?_;exact .drop 0 3 (.done ⟨rfl,rfl⟩)
theorem ais(a b c d:Int)(σ:Hp):ACalls Tryz.prog 358 [.agg (nC a b),.agg (nC c d)] σ (aC (.agg (nC (aE (aE a*aE c-aE b*aE d)) (aE (aE a*aE d+aE b*aE c)))) σ):=by
 have hF:=XO a b c d;refine ay Tryz.func358 ?_;intro aF;intro dJ;intro tU;refine .sched [1,3,5] (upto [1,3,5] 7 0) (by kernel_rfl) ?_;refine aa 2 ?_;refine aK [] (zu _ _ _) ?_;refine aa 1 ?_;refine aK [] (zu _ _ _) ?_;refine .mk (by unfold iF;omega) ?_;refine aK [] (IT _ _ _ (by unfold iF;omega) (by unfold iF;omega)) ?_;refine aj 0 ?_;refine aa 0 ?_;exact .drop 0 3 (.done ⟨rfl,rfl⟩)
theorem ahi(a b:Int)(σ:Hp):ACalls Tryz.prog 359 [.agg (nC a b)] σ (aC (.agg (nC (aE (aE a)) (aE (-aE b)))) σ):=by
 have hF:=Ez a b 0 0;refine ay Tryz.func359 ?_;intro aF;intro dJ;refine aa 1 ?_;refine ax [] (zu _ _ _) ?_;refine ax [] (IT _ _ _ (by unfold iF;omega) (by unfold iF;omega)) ?_;refine aj 0 ?_;refine aa 0 ?_;exact .drop 0 2 (.done ⟨rfl,rfl⟩)
def iV(op a b c d:Int):Option (Int×Int):=
 if op=0 then some (aE a,aE b) else
 if op=1 then some (aE (aE a+aE c),aE (aE b+aE d)) else
 if op=2 then some (aE (aE a-aE c),aE (aE b-aE d)) else
 if op=3 then some (aE (aE a*aE c-aE b*aE d),aE (aE a*aE d+aE b*aE c)) else
 if op=4 then some (aE (aE a),aE (-aE b)) else none
def uZ(r:Option (Int×Int))(ok err:AV):AV:=match r with | some (x,y)=>.tup [.agg (nC x y),ok] | none=>.tup [.agg (nC 0 0),err]
theorem OR(op a b c d:Int)(σ:Hp):ACalls Tryz.prog 344 [.int .i64 op,.agg (nC a b),.agg (nC c d)] σ (aC (uZ (iV op a b c d) (.int .i64 0) (.int .i64 10)) σ):=by
 refine ay Tryz.func344 ?_;intro aF;intro dJ;intro tU;intro bl4;refine ao (fun c5=>?_) (fun c5=>?_)
 ·have c5:op=0:=c5;refine aa 3 ?_;refine aa 3 ?_;refine ax [] (Fv _ _ _) ?_;refine aj 0 ?_;refine .fwd 1 ?_;refine aa 0 ?_;refine aj 1 ?_;refine aa 1 ?_;exact .drop 0 4 (.done ⟨(by simp[iV,uZ, *];rfl),rfl⟩)
 ·have c5:¬(op=0):=c5;refine ao (fun c6=>?_) (fun c6=>?_)
  ·have c6:op=1:=c6;refine aa 3 ?_;refine aa 2 ?_;refine ax [] (ait _ _ _ _ _) ?_;refine aj 0 ?_;refine .fwd 1 ?_;refine aa 0 ?_;refine aj 1 ?_;refine aa 1 ?_;exact .drop 0 4 (.done ⟨(by simp[iV,uZ, *];rfl),rfl⟩)
  ·have c6:¬(op=1):=c6;refine ao (fun c7=>?_) (fun c7=>?_)
   ·have c7:op=2:=c7;refine aa 3 ?_;refine aa 2 ?_;refine ax [] (air _ _ _ _ _) ?_;refine aj 0 ?_;refine .fwd 1 ?_;refine aa 0 ?_;refine aj 1 ?_;refine aa 1 ?_;exact .drop 0 4 (.done ⟨(by simp[iV,uZ, *];rfl),rfl⟩)
   ·have c7:¬(op=2):=c7;refine ao (fun c8=>?_) (fun c8=>?_)
    ·have c8:op=3:=c8;refine aa 3 ?_;refine aa 2 ?_;refine ax [] (ais _ _ _ _ _) ?_;refine aj 0 ?_;refine .fwd 1 ?_;refine aa 0 ?_;refine aj 1 ?_;refine aa 1 ?_;exact .drop 0 4 (.done ⟨(by simp[iV,uZ, *];rfl),rfl⟩)
    ·have c8:¬(op=3):=c8;refine ao (fun c9=>?_) (fun c9=>?_)
     ·have c9:op=4:=c9;refine aa 3 ?_;refine ax [] (ahi _ _ _) ?_;refine aj 0 ?_;refine .fwd 1 ?_;refine aa 0 ?_;refine aj 1 ?_;refine aa 1 ?_;exact .drop 0 4 (.done ⟨(by simp[iV,uZ, *];rfl),rfl⟩)
     ·have c9:¬(op=4):=c9;refine aj 1 ?_;refine aa 1 ?_;exact .drop 0 4 (.done ⟨(by simp[iV,uZ, *];rfl),rfl⟩)
def p9(x y:Int):Int:=aE x % 65536+65536*(aE y % 65536)
theorem DN(x y:Int):0≤p9 x y:=by unfold p9;omega
theorem HO(x y:Int):p9 x y<4294967296:=by unfold p9;omega
theorem XH(n:Int):IntKind.u16.wrap n=n % 65536:=by simp[IntKind.wrap,IntKind.bits,IntKind.signed]
theorem Wm(k:Nat){a b:Nat}(ha:a<2 ^ k)(hb:2 ^ k*b<18446744073709551616)(hk:2 ^ k<18446744073709551616):bits .or .u64 (a:Int) ((2 ^ k*b:Nat):Int)=((2 ^ k*b+a:Nat):Int):=by
 rw[tX (by omega) hb,Nat.or_comm,Qo ha b]
theorem aeB(x y:Int):bits BinOp.or IntKind.u64 (IntKind.u64.wrap (IntKind.u16.wrap (aE x))) (IntKind.u64.wrap (IntKind.u64.wrap (IntKind.u16.wrap (aE y))*2 ^ min (Int.toNat 16) IntKind.u64.bits))=p9 x y:=by
 have e:(2:Int) ^ min (Int.toNat 16) IntKind.u64.bits=65536:=by decide
 rw[e,XH,XH,IntKind.wrap_u64,IntKind.wrap_u64,IntKind.wrap_u64];unfold p9;generalize aE x=p;generalize aE y=q;have h:=Wm 16 (a:=(p % 65536).toNat) (b:=(q % 65536).toNat) (by omega) (by omega) (by decide);have e1:(((p % 65536).toNat:Nat):Int)=p % 65536 % 18446744073709551616:=by omega
 have e2:((2 ^ 16*(q % 65536).toNat:Nat):Int)=q % 65536 % 18446744073709551616*65536 % 18446744073709551616:=by omega
 rw[e1,e2]at h;rw[h];omega
theorem ach(x y:Int):IntKind.u64.wrap (IntKind.u64.wrap ((IntKind.i64.wrap (aE x+65536)).tmod 65536)+IntKind.u64.wrap (65536*IntKind.u64.wrap ((IntKind.i64.wrap (aE y+65536)).tmod 65536)))=p9 x y:=by
 have h1:=xR x;have h2:=xS x;have h3:=xR y;have h4:=xS y;unfold p9;rw[IntKind.wrap_i64,IntKind.wrap_i64,tR (by omega),tR (by omega),IntKind.wrap_u64,IntKind.wrap_u64,IntKind.wrap_u64,IntKind.wrap_u64];omega
theorem ahh(x y:Int)(σ:Hp):ACalls Tryz.prog 342 [.agg (nC x y)] σ (aC (.int .u64 (p9 x y)) σ):=by
 refine ay Tryz.func342 ?_;intro aF;refine .quiet (by kernel_rfl) ?_;refine aa 0 ?_;refine aK [] (IS _ _) ?_;refine aa 0 ?_;refine aK [] (IS _ _) ?_;refine dZ ?_;exact .drop 0 1 (.done ⟨aT (aeB x y),rfl⟩)
theorem agR(x y:Int)(σ:Hp):ACalls Tryz.prog 326 [.agg (nC x y)] σ (aC (.int .u64 (p9 x y)) σ):=by
 refine ay Tryz.func326 ?_;intro aF;refine aa 0 ?_;refine aa 0 ?_;refine ax [] (yv _ _ _) ?_;refine aj 0 ?_;refine aa 0 ?_;refine dZ ?_;refine aa 0 ?_;refine dZ ?_;exact .drop 0 1 (.done ⟨aT (ach x y),rfl⟩)
def lQ(x y:Int):Int:=2+4*p9 x y
theorem Jg(x y:Int)(σ:Hp):ACalls Tryz.prog 331 [.agg (nC x y)] σ (aC (.int .u64 (lQ x y)) σ):=by
 refine ay Tryz.func331 ?_;intro aF;refine aa 0 ?_;refine ax [] (ahh _ _ _) ?_;refine dZ ?_
 have e:bits BinOp.or IntKind.u64 2 (IntKind.u64.wrap (p9 x y*2 ^ min (Int.toNat 2) IntKind.u64.bits))=lQ x y:=by
  have e:(2:Int) ^ min (Int.toNat 2) IntKind.u64.bits=4:=by decide
  have h1:=DN x y;have h2:=HO x y;rw[e,IntKind.wrap_u64];unfold lQ;generalize p9 x y=p at h1 h2 ⊢;have h:=Wm 2 (a:=2) (b:=p.toNat) (by decide) (by omega) (by decide);have e2:((2 ^ 2*p.toNat:Nat):Int)=p*4 % 18446744073709551616:=by omega
  rw[e2]at h;exact h.trans (by omega)
 exact .drop 0 1 (.done ⟨aT e,rfl⟩)
theorem EK(x y:Int)(σ:Hp):ACalls Tryz.prog 293 [.agg (nC x y)] σ (aC (.int .u64 (lQ x y)) σ):=by
 refine ay Tryz.func293 ?_;intro aF;refine aa 0 ?_;refine ax [] (agR _ _ _) ?_
 have e:IntKind.u64.wrap (2+IntKind.u64.wrap (4*p9 x y))=lQ x y:=by
  have h1:=DN x y;have h2:=HO x y;unfold lQ;rw[IntKind.wrap_u64,IntKind.wrap_u64];omega
 exact .drop 0 1 (.done ⟨aT e,rfl⟩)
def kr(w:Int):Int:=if eT w then aE (w / 4 % 65536) else 0
def ku(w:Int):Int:=if eT w then aE (w / 4 / 65536) else 0
theorem adB(w:Int)(σ:Hp)(h:bK w):ACalls Tryz.prog 285 [.int .u64 w] σ (aC (if w<4294967296 then .tup [.agg (nC (aE (w % 65536)) (aE (w / 65536))),.bool true] else .tup [.agg (nC 0 0),.bool false]) σ):=by
 have e:=D9 (k:=32) (m:=32) (w:=w) (by decide);have e16:w.fdiv (2 ^ min (Int.toNat 16) IntKind.u64.bits)=w / 65536:=D9 (k:=16) (m:=16) (w:=w) (by decide)
 have ea:bits .and .u64 w 65535=w % 65536:=by
  show IntKind.u64.wrap ((BitVec.ofInt 64 w &&& BitVec.ofInt 64 65535).toNat:Int)=_;have h3:(BitVec.ofInt 64 65535:BitVec 64).toNat=2 ^ 16-1:=by decide
  rw[BitVec.toNat_and,h3,Qq,BitVec.toNat_ofInt,IntKind.wrap_u64];omega
 have h1:=h.1;have h2:=h.2;refine ay Tryz.func285 ?_;intro b1;refine dZ ?_;refine dX (fun h2=>?_) (fun h2=>?_)
 ·have h2:¬(w.fdiv (2 ^ min (Int.toNat 32) IntKind.u64.bits)=0):=by simpa using h2
  have hw:¬(w<4294967296):=fun h=>h2 (by rw[show w.fdiv (2 ^ min (Int.toNat 32) IntKind.u64.bits)=w / 2 ^ 32 from e];omega);refine aj 0 ?_;refine aa 0 ?_;rw[ag hw];exact .drop 0 1 (.done ⟨rfl,rfl⟩)
 ·have h2:w.fdiv (2 ^ min (Int.toNat 32) IntKind.u64.bits)=0:=by simpa using h2
  have hw:w<4294967296:=by rw[show w.fdiv (2 ^ min (Int.toNat 32) IntKind.u64.bits)=w / 2 ^ 32 from e]at h2;omega
  refine dZ ?_;refine ax [] (Fv _ _ _) ?_;refine aj 0 ?_;refine aa 0 ?_;rw[af hw];have x1:IntKind.i64.wrap (bits .and .u64 w 65535)=w % 65536:=by rw[ea,IntKind.wrap_i64];omega
  have x2:IntKind.i64.wrap (w.fdiv (2 ^ min (Int.toNat 16) IntKind.u64.bits))=w / 65536:=by rw[e16,IntKind.wrap_i64];omega
  rw[← x1,← x2];exact .drop 0 1 (.done ⟨rfl,rfl⟩)
theorem BV(w:Int)(σ:Hp)(h:bK w):ACalls Tryz.prog 251 [.int .u64 w] σ (aC (.tup [.agg (nC (kr w) (ku w)),.bool (eT w)]) σ):=by
 have e:=D9 (k:=2) (m:=2) (w:=w) (by decide);have h0:=h.1;have Qb:=h.2;refine ay Tryz.func251 ?_;intro b1;refine dX (fun h2=>?_) (fun h2=>?_)
 ·have h2:¬(bits BinOp.and IntKind.u64 w 3=2):=by simpa using h2
  rw[Jk]at h2;have hn:eT w=false:=by simp[eT,h2]
  refine aj 0 ?_;refine aa 0 ?_;unfold kr ku;rw[hn];exact .drop 0 1 (.done ⟨rfl,rfl⟩)
 ·have h2:bits BinOp.and IntKind.u64 w 3=2:=by simpa using h2
  rw[Jk]at h2;refine dZ ?_;have e':w.fdiv (2 ^ min (Int.toNat 2) IntKind.u64.bits)=w / 4:=e;refine ax [] (adB _ _ ⟨by rw[e'];omega,by rw[e'];omega⟩) ?_;unfold kr ku
  by_cases hw:w<17179869184
  ·have hn:eT w=true:=by simp[eT,h2];omega
   rw[af (show w.fdiv (2 ^ min (Int.toNat 2) IntKind.u64.bits)<4294967296 by rw[e'];omega),hn];refine aj 0 ?_;refine aa 0 ?_;rw[e'];exact .drop 0 1 (.done ⟨rfl,rfl⟩)
  ·have hn:eT w=false:=by simp[eT,h2];omega
   rw[ag (show ¬w.fdiv (2 ^ min (Int.toNat 2) IntKind.u64.bits)<4294967296 by rw[e'];omega),hn];refine aj 0 ?_;refine aa 0 ?_;exact .drop 0 1 (.done ⟨rfl,rfl⟩)
theorem BN(w:Int)(σ:Hp)(h:bK w):ACalls Tryz.prog 179 [.int .u64 w] σ (aC (.tup [.agg (nC (kr w) (ku w)),.bool (eT w)]) σ):=by
 have h0:=h.1;have h2:=h.2;have e1:w.tmod 4=w % 4:=tR h0;have e2:IntKind.u64.wrap (w.tdiv 4)=w / 4:=by rw[C7 h0,IntKind.wrap_u64];omega
 refine ay Tryz.func179 ?_;unfold kr ku;intro aF;refine dZ ?_;refine dX (fun c2=>?_) (fun c2=>?_)
 ·have c2:¬(w.tmod 4=2):=by simpa using c2
  have hn:eT w=false:=by unfold eT;simp;omega
  rw[hn];refine aj 0 ?_;refine aa 0 ?_;exact .drop 0 1 (.done ⟨rfl,rfl⟩)
 ·have c2:w.tmod 4=2:=by simpa using c2
  refine dZ ?_;refine ao (fun c3=>?_) (fun c3=>?_)
  ·have c3:4294967296≤IntKind.u64.wrap (w.tdiv 4):=c3;have hn:eT w=false:=by unfold eT;simp;omega
   rw[hn];refine aj 0 ?_;refine aa 0 ?_;exact .drop 0 1 (.done ⟨rfl,rfl⟩)
  ·have c3:¬(4294967296≤IntKind.u64.wrap (w.tdiv 4)):=c3;have hn:eT w=true:=by unfold eT;simp;omega
   have e3:IntKind.i64.wrap (IntKind.u64.wrap (w.tdiv 4))=w / 4:=by rw[e2,IntKind.wrap_i64];omega
   have e4:(w / 4).tmod 65536=w / 4 % 65536:=tR (by omega);have e5:IntKind.i64.wrap ((w / 4).tdiv 65536)=w / 4 / 65536:=by rw[C7 (by omega),IntKind.wrap_i64];omega
   rw[hn,af rfl,af rfl,← e4,← e5,← e3];refine dZ ?_;refine dZ ?_;refine dZ ?_;refine ax [] (yv _ _ _) ?_;refine aj 0 ?_;refine aa 0 ?_;exact .drop 0 1 (.done ⟨rfl,rfl⟩)
theorem cC{n:Int}(h : -4611686018427387904≤n∧n≤4611686018427387904):IntKind.i64.wrap n=n:=by rw[IntKind.wrap_i64];omega
theorem Ow(op a b c d:Int)(σ:Hp):ACalls Tryz.prog 294 [.int .i64 op,.agg (nC a b),.agg (nC c d)] σ (aC (uZ (iV op a b c d) (.bool true) (.bool false)) σ):=by
 have hF:=Ez a b c d;have hM:=XO a b c d;refine ay Tryz.func294 ?_;intro aF;intro dJ;intro tU;refine aa 2 ?_;refine aa 2 ?_;refine ax [] (yv _ _ _) ?_;refine aj 2 ?_;refine aa 1 ?_;refine aa 1 ?_;refine ax [] (yv _ _ _) ?_;refine aj 1 ?_;refine ao (fun c4=>?_) (fun c4=>?_)
 ·have c4:op=0:=c4;refine aa 2 ?_;refine aj 0 ?_;refine aa 0 ?_;exact .drop 0 3 (.done ⟨(by simp[iV,uZ, *];rfl),rfl⟩)
 ·have c4:¬(op=0):=c4;refine ao (fun c5=>?_) (fun c5=>?_)
  ·have c5:op=1:=c5;refine aa 2 ?_;refine aa 1 ?_;refine aa 2 ?_;refine aa 1 ?_;refine ax [] (yv _ _ _) ?_;refine aj 0 ?_;refine aa 0 ?_;have eo:iV op a b c d=some (aE (aE a+aE c),aE (aE b+aE d)):=by simp[iV, *]
   have ev:AV.tup [.agg (nC (aE (IntKind.i64.wrap (aE a+aE c))) (aE (IntKind.i64.wrap (aE b+aE d)))),.bool true]=AV.tup [.agg (nC (aE (aE a+aE c)) (aE (aE b+aE d))),.bool true]:=by rw[cC (n:=aE a+aE c) (by omega),cC (n:=aE b+aE d) (by omega)]
   rw[eo];exact .drop 0 3 (.done ⟨ev,rfl⟩)
  ·have c5:¬(op=1):=c5;refine ao (fun c6=>?_) (fun c6=>?_)
   ·have c6:op=2:=c6;refine aa 2 ?_;refine aa 1 ?_;refine aa 2 ?_;refine aa 1 ?_;refine ax [] (yv _ _ _) ?_;refine aj 0 ?_;refine aa 0 ?_;have eo:iV op a b c d=some (aE (aE a-aE c),aE (aE b-aE d)):=by simp[iV, *]
    have ev:AV.tup [.agg (nC (aE (IntKind.i64.wrap (aE a-aE c))) (aE (IntKind.i64.wrap (aE b-aE d)))),.bool true]=AV.tup [.agg (nC (aE (aE a-aE c)) (aE (aE b-aE d))),.bool true]:=by rw[cC (n:=aE a-aE c) (by omega),cC (n:=aE b-aE d) (by omega)]
    rw[eo];exact .drop 0 3 (.done ⟨ev,rfl⟩)
   ·have c6:¬(op=2):=c6;refine ao (fun c7=>?_) (fun c7=>?_)
    ·have c7:op=3:=c7;refine aa 2 ?_;refine aa 1 ?_;refine aa 2 ?_;refine aa 1 ?_;refine aa 2 ?_;refine aa 1 ?_;refine aa 2 ?_;refine aa 1 ?_;refine ax [] (yv _ _ _) ?_;refine aj 0 ?_;refine aa 0 ?_;have eo:iV op a b c d=some (aE (aE a*aE c-aE b*aE d),aE (aE a*aE d+aE b*aE c)):=by simp[iV, *]
     have ev:AV.tup [.agg (nC (aE (IntKind.i64.wrap (IntKind.i64.wrap (aE a*aE c)-IntKind.i64.wrap (aE b*aE d)))) (aE (IntKind.i64.wrap (IntKind.i64.wrap (aE a*aE d)+IntKind.i64.wrap (aE b*aE c))))),.bool true]=AV.tup [.agg (nC (aE (aE a*aE c-aE b*aE d)) (aE (aE a*aE d+aE b*aE c))),.bool true]:=by rw[cC (n:=aE a*aE c) (by omega),cC (n:=aE b*aE d) (by omega),cC (n:=aE a*aE d) (by omega),cC (n:=aE b*aE c) (by omega),cC (n:=aE a*aE c-aE b*aE d) (by omega),cC (n:=aE a*aE d+aE b*aE c) (by omega)]
     rw[eo];exact .drop 0 3 (.done ⟨ev,rfl⟩)
    ·have c7:¬(op=3):=c7;refine ao (fun c8=>?_) (fun c8=>?_)
     ·have c8:op=4:=c8;refine aa 2 ?_;refine aa 2 ?_;refine ax [] (yv _ _ _) ?_;refine aj 0 ?_;refine aa 0 ?_;have eo:iV op a b c d=some (aE (aE a),aE (-aE b)):=by simp[iV, *]
      have ev:AV.tup [.agg (nC (aE (aE a)) (aE (IntKind.i64.wrap (0-aE b)))),.bool true]=AV.tup [.agg (nC (aE (aE a)) (aE (-aE b))),.bool true]:=by rw[cC (n:=0-aE b) (by omega),Int.zero_sub]
      rw[eo];exact .drop 0 3 (.done ⟨ev,rfl⟩)
     ·have c8:¬(op=4):=c8;refine aj 0 ?_;refine aa 0 ?_;exact .drop 0 3 (.done ⟨(by simp[iV,uZ, *];rfl),rfl⟩)
end Go.Proofs.YtnikdflhefijbaaGreat
