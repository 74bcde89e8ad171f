import Derived.Test.YtnikdflhefijbaaGreatBs6
namespace Go.Proofs.YtnikdflhefijbaaGreat
open Go.RowKit
set_option maxRecDepth 100000
theorem zd{i:TI}{K:AV→Hp→Prop}(fr:Hp){acc σ:Hp}{k n:Nat}{v x:AV}{cs new:List AV}(h:Acc i.size k v acc cs)(hx:ji (fr++(acc++σ)) i.size x n new)(fP:new.length=n*i.size)(hn:k+n≤1048576)(hb:i.bytes≤1024)(h0:0<i.size)
  (go:∀v' aJ,Acc i.size (k+n) v' aJ (cs++new)→K v' (fr++(aJ++σ))):AppendAt i (fr++(acc++σ)) v x K:=by
 have hl:=h.length;cases h with
 |nil=>
  refine .perm _ (ew fr [] σ) (.fresh n new (.inl rfl) (hx.perm (ew fr [] σ)) (by omega) hb h0 (K:=fun v ee=>(n=0∧v=.ag∧ee=[]++(fr++σ))∨(n≠0∧∃b,v=.af b 0 n i.size∧ee=(b,new)::([]++(fr++σ)))) (fun bf b=>.inr ⟨bf,b,rfl,rfl⟩) (fun h0=>.inl ⟨h0,rfl,rfl⟩)) ?_;rintro v ee (⟨hz,rfl,rfl⟩ | ⟨hz,b,rfl,rfl⟩)
  ·subst hz;obtain rfl:new=[]:=List.length_eq_zero_iff.1 (by simpa using fP);exact⟨_,(ew fr [] σ).symm,.inl (go _ _ .nil)⟩
  ·refine⟨_,(ew fr [(b,new)] σ).symm,.inl (go _ _ ?_)⟩;have:=Acc.af (e:=i.size) b (0+n) new (by rw[fP,dD]);rw[dD]at this ⊢;exact this
 |af b k cs h=>
  refine .perm _ (ew fr [(b,cs)] σ) (.more 0 b k n cs new rfl rfl (by rw[h];exact bg _) (hx.perm (ew fr [(b,cs)] σ)) hn hb h0 (K:=fun v ee=>∃b',v=.af b' 0 (k+n) i.size∧ee=(b',cs.take (k*i.size)++new)::(fr++σ)) (fun b'=>⟨b',rfl,rfl⟩)) ?_;rintro v ee ⟨b',rfl,rfl⟩;rw[dZ (by omega)];exact⟨_,(ew fr [(b',cs++new)] σ).symm,.inl (go _ _ (.af _ _ _ (by rw[bB,h,fP,qv])))⟩
theorem kB(f:List Hp)(σ:Hp){a b:List Nat}(h:a.Perm b):(a.foldr (fun i t=>f.getD i []++t) σ).Perm (b.foldr (fun i t=>f.getD i []++t) σ):=by
 induction h with
 |nil=>exact .refl _
 |cons x _ ih=>exact ih.append_left _
 |swap x y l=>exact ew _ _ _
 |trans _ _ Df De=>exact Df.trans De
set_option maxHeartbeats 4000000
theorem I4{β:Type}(f:Nat→β)(c:β→AV)(i:Nat):((List.range (i+1)).map f).map c=((List.range i).map f).map c++[c (f i)]:=by
 rw[pz,cE,cE];rfl
theorem LB{e k:Nat}{v:AV}{acc:Hp}{cs cs':List AV}(h:cs=cs')(ha:Acc e k v acc cs'):Acc e k v acc cs:=h▸ha
theorem aeG(g:FuncId)(cap:List AV)(St:List Nat→Hp→Prop)(S0 σ:Hp)(h0:St [] S0)(n:Nat)(hn:n≤100000)(vm:∀(L:List Nat) (S τ:Hp),L.length<n→St L S→ACalls Tryz.prog g (.int .i64 L.length::cap) (S++τ) (fun r σ'=>∃w S',r=.ptr w 0∧σ'=S'++τ∧St (L++[w]) S')):ACalls Tryz.prog 98 [.int .i64 n,.fn (.func g) [] cap] (S0++σ) (fun r σ'=>∃L S' acc,L.length=n∧St L S'∧Acc 1 n r acc (L.map fun w=>.ptr w 0)∧σ'=acc++(S'++σ)):=by
 refine ao Tryz.func98 ?_;refine .wrap 5 .ag rfl rfl ?_;refine bc (S:=List Nat×AV×Hp×{S:Hp // True}) (fun t=>[(1,.fn (.func g) [] cap),(5,.via t.2.1),(7,.int .i64 n),(8,.int .i64 t.1.length)]) (fun t=>t.2.2.1++(t.2.2.2.1++σ)) (fun t=>t.1.length≤n∧Acc 1 t.1.length t.2.1 t.2.2.1 (t.1.map (fun w=>AV.ptr w 0))∧St t.1 t.2.2.2.1) (fun t=>n-t.1.length) ([],.ag,[],⟨S0,trivial⟩) ⟨⟨aV _,.nil,h0⟩,⟨rfl,rfl,rfl,rfl,trivial⟩,rfl⟩ ?_;rintro⟨L,v,acc,⟨S,_⟩⟩ g2 ⟨dK,h0,DI⟩;have hi:L.length≤n:=dK;have h:Acc 1 L.length v acc (L.map (fun w=>AV.ptr w 0)):=h0;have hS:St L S:=DI;clear dK h0 DI;refine ai (p:=(L.length:Int)<(n:Int)) (fun ab=>?_) (fun ak=>?_);rotate_left
 ·have ak:L.length=n:=by omega
  exact .done ⟨L,S,acc,ak,hS,ak▸h,rfl⟩
 have ab:L.length<n:=by omega
 refine .perm (σ2:=S++(acc++σ)) _ (ew acc S σ) (vm L S (acc++σ) ab hS) ?_;rintro _ _ ⟨w,S',rfl,rfl,AP⟩;refine⟨_,(ew acc S' σ).symm,?_⟩;intro b1;refine eS [_] h (.af 0 b1 0 1 _ rfl (cj rfl)) rfl (by omega) (by decide) (by decide) (fun v' aJ h'=>?_);refine aM (L++[w],v',aJ,⟨S',trivial⟩) (by show n-(L++[w]).length<n-L.length;rw[bB];simp only[A5];omega) ⟨by rw[bB];exact ab,?_,AP⟩ ⟨rfl,rfl,rfl,?_,trivial⟩ (.drop 0 1 (.refl _))
 ·show Acc 1 (L++[w]).length v' aJ ((L++[w]).map (fun w=>AV.ptr w 0));rw[bB,cE];exact h'
 ·rw[bB];exact aI (show L.length<1000000000 by omega)
theorem Ts(g:FuncId)(cap:List AV)(St:List Nat→Hp→Prop)(S0 σ:Hp)(h0:St [] S0)(n:Nat)(hn:n≤100000)(vm:∀(L:List Nat) (S τ:Hp),L.length<n→St L S→ACalls Tryz.prog g (.int .i64 L.length::cap) (S++τ) (fun r σ'=>∃w S',r=.iface 168 (.ptr w 0)∧σ'=S'++τ∧St (L++[w]) S')):ACalls Tryz.prog 102 [.int .i64 n,.fn (.func g) [] cap] (S0++σ) (fun r σ'=>∃L S' acc,L.length=n∧St L S'∧Acc 1 n r acc (L.map fun w=>.iface 168 (.ptr w 0))∧σ'=acc++(S'++σ)):=by
 refine ao Tryz.func102 ?_;refine .wrap 5 .ag rfl rfl ?_;refine bc (S:=List Nat×AV×Hp×{S:Hp // True}) (fun t=>[(1,.fn (.func g) [] cap),(5,.via t.2.1),(7,.int .i64 n),(8,.int .i64 t.1.length)]) (fun t=>t.2.2.1++(t.2.2.2.1++σ)) (fun t=>t.1.length≤n∧Acc 1 t.1.length t.2.1 t.2.2.1 (t.1.map (fun w=>AV.iface 168 (.ptr w 0)))∧St t.1 t.2.2.2.1) (fun t=>n-t.1.length) ([],.ag,[],⟨S0,trivial⟩) ⟨⟨aV _,.nil,h0⟩,⟨rfl,rfl,rfl,rfl,trivial⟩,rfl⟩ ?_;rintro⟨L,v,acc,⟨S,_⟩⟩ g2 ⟨dK,h0,DI⟩;have hi:L.length≤n:=dK;have h:Acc 1 L.length v acc (L.map (fun w=>AV.iface 168 (.ptr w 0))):=h0;have hS:St L S:=DI;clear dK h0 DI;refine ai (p:=(L.length:Int)<(n:Int)) (fun ab=>?_) (fun ak=>?_);rotate_left
 ·have ak:L.length=n:=by omega
  exact .done ⟨L,S,acc,ak,hS,ak▸h,rfl⟩
 have ab:L.length<n:=by omega
 refine .perm (σ2:=S++(acc++σ)) _ (ew acc S σ) (vm L S (acc++σ) ab hS) ?_;rintro _ _ ⟨w,S',rfl,rfl,AP⟩;refine⟨_,(ew acc S' σ).symm,?_⟩;intro b1;refine eS [_] h (.af 0 b1 0 1 _ rfl (cj rfl)) rfl (by omega) (by decide) (by decide) (fun v' aJ h'=>?_);refine aM (L++[w],v',aJ,⟨S',trivial⟩) (by show n-(L++[w]).length<n-L.length;rw[bB];simp only[A5];omega) ⟨by rw[bB];exact ab,?_,AP⟩ ⟨rfl,rfl,rfl,?_,trivial⟩ (.drop 0 1 (.refl _))
 ·show Acc 1 (L++[w]).length v' aJ ((L++[w]).map (fun w=>AV.iface 168 (.ptr w 0)));rw[bB,cE];exact h'
 ·rw[bB];exact aI (show L.length<1000000000 by omega)
theorem Tt(g:FuncId)(cap:List AV)(S σ:Hp)(f:Nat→Int)(n:Nat)(hn:n≤100000)(vm:∀i:Nat,i<n→∀τ,ACalls Tryz.prog g (.int .i64 i::cap) (S++τ) (ay (.int .i64 (f i)) (S++τ))):ACalls Tryz.prog 50 [.int .i64 n,.fn (.func g) [] cap] (S++σ) (ay (.ae (.int .i64) ((List.range n).map f)) (S++σ)):=by
 refine ao Tryz.func50 ?_;refine .wrap 5 .ag rfl rfl ?_;refine bc (S:=Nat×AV×Hp) (fun t=>[(1,.fn (.func g) [] cap),(5,.via t.2.1),(7,.int .i64 n),(8,.int .i64 t.1)]) (fun t=>t.2.2++(S++σ)) (fun t=>t.1≤n∧Acc 1 t.1 t.2.1 t.2.2 (((List.range t.1).map f).map (AV.int .i64))) (fun t=>n-t.1) (0,.ag,[]) ⟨⟨aV _,.nil⟩,⟨rfl,rfl,rfl,rfl,trivial⟩,rfl⟩ ?_;rintro⟨i,v,acc⟩ g ⟨dK,h0⟩;have hi:i≤n:=dK;have h:Acc 1 i v acc (((List.range i).map f).map (AV.int .i64)):=h0;clear dK h0;refine ai (p:=(i:Int)<(n:Int)) (fun ab=>?_) (fun ak=>?_);rotate_left
 ·have ak:i=n:=by omega
  subst ak;have hlen:((List.range i).map f).length=i:=by rw[cN,og]
  exact lH [] (s:=(.int .i64)) h hlen.symm (MY ..) Nat.one_pos (.done ⟨rfl,rfl⟩)
 have ab:i<n:=by omega
 refine .perm (σ2:=S++(acc++σ)) _ (ew acc S σ) (vm i ab (acc++σ)) ?_;rintro _ _ ⟨rfl,rfl⟩;refine⟨_,(ew acc S σ).symm,?_⟩;intro b1;refine eS [_] h (.af 0 b1 0 1 _ rfl (cj rfl)) rfl (by omega) (by decide) (by decide) (fun v' aJ h'=>?_);refine aM (i+1,v',aJ) (by show n-(i+1)<n-i;omega) ⟨ab,?_⟩ ⟨rfl,rfl,rfl,aI (by omega),trivial⟩ (.drop 0 1 (.refl _));show Acc 1 (i+1) v' aJ (((List.range (i+1)).map f).map (AV.int .i64));exact LB (I4 f (AV.int .i64) i) h'
theorem aeI(g:FuncId)(cap:List AV)(S σ:Hp)(f:Nat→Bool)(n:Nat)(hn:n≤100000)(vm:∀i:Nat,i<n→∀τ,ACalls Tryz.prog g (.int .i64 i::cap) (S++τ) (ay (.bool (f i)) (S++τ))):ACalls Tryz.prog 47 [.int .i64 n,.fn (.func g) [] cap] (S++σ) (ay (.ae .bool ((List.range n).map f)) (S++σ)):=by
 refine ao Tryz.func47 ?_;refine .wrap 5 .ag rfl rfl ?_;refine bc (S:=Nat×AV×Hp) (fun t=>[(1,.fn (.func g) [] cap),(5,.via t.2.1),(7,.int .i64 n),(8,.int .i64 t.1)]) (fun t=>t.2.2++(S++σ)) (fun t=>t.1≤n∧Acc 1 t.1 t.2.1 t.2.2 (((List.range t.1).map f).map AV.bool)) (fun t=>n-t.1) (0,.ag,[]) ⟨⟨aV _,.nil⟩,⟨rfl,rfl,rfl,rfl,trivial⟩,rfl⟩ ?_;rintro⟨i,v,acc⟩ g ⟨dK,h0⟩;have hi:i≤n:=dK;have h:Acc 1 i v acc (((List.range i).map f).map AV.bool):=h0;clear dK h0;refine ai (p:=(i:Int)<(n:Int)) (fun ab=>?_) (fun ak=>?_);rotate_left
 ·have ak:i=n:=by omega
  subst ak;have hlen:((List.range i).map f).length=i:=by rw[cN,og]
  exact lH [] (s:=.bool) h hlen.symm (MY ..) Nat.one_pos (.done ⟨rfl,rfl⟩)
 have ab:i<n:=by omega
 refine .perm (σ2:=S++(acc++σ)) _ (ew acc S σ) (vm i ab (acc++σ)) ?_;rintro _ _ ⟨rfl,rfl⟩;refine⟨_,(ew acc S σ).symm,?_⟩;intro b1;refine eS [_] h (.af 0 b1 0 1 _ rfl (cj rfl)) rfl (by omega) (by decide) (by decide) (fun v' aJ h'=>?_);refine aM (i+1,v',aJ) (by show n-(i+1)<n-i;omega) ⟨ab,?_⟩ ⟨rfl,rfl,rfl,aI (by omega),trivial⟩ (.drop 0 1 (.refl _));show Acc 1 (i+1) v' aJ (((List.range (i+1)).map f).map AV.bool);exact LB (I4 f AV.bool i) h'
theorem aeH(g:FuncId)(cap:List AV)(S σ:Hp)(f:Nat→List Int)(n:Nat)(hn:n≤100000)(vm:∀i:Nat,i<n→∀τ,ACalls Tryz.prog g (.int .i64 i::cap) (S++τ) (ay (.ae (.int .u64) (f i)) (S++τ))):ACalls Tryz.prog 104 [.int .i64 n,.fn (.func g) [] cap] (S++σ) (ay (.ae (.slice (.int .u64)) ((List.range n).map f)) (S++σ)):=by
 refine ao Tryz.func104 ?_;refine .wrap 5 .ag rfl rfl ?_;refine bc (S:=Nat×AV×Hp) (fun t=>[(1,.fn (.func g) [] cap),(5,.via t.2.1),(7,.int .i64 n),(8,.int .i64 t.1)]) (fun t=>t.2.2++(S++σ)) (fun t=>t.1≤n∧Acc 1 t.1 t.2.1 t.2.2 (((List.range t.1).map f).map (AV.ae (.int .u64)))) (fun t=>n-t.1) (0,.ag,[]) ⟨⟨aV _,.nil⟩,⟨rfl,rfl,rfl,rfl,trivial⟩,rfl⟩ ?_;rintro⟨i,v,acc⟩ g ⟨dK,h0⟩;have hi:i≤n:=dK;have h:Acc 1 i v acc (((List.range i).map f).map (AV.ae (.int .u64))):=h0;clear dK h0;refine ai (p:=(i:Int)<(n:Int)) (fun ab=>?_) (fun ak=>?_);rotate_left
 ·have ak:i=n:=by omega
  subst ak;have hlen:((List.range i).map f).length=i:=by rw[cN,og]
  exact lH [] (s:=(.slice (.int .u64))) h hlen.symm (MY ..) Nat.one_pos (.done ⟨rfl,rfl⟩)
 have ab:i<n:=by omega
 refine .perm (σ2:=S++(acc++σ)) _ (ew acc S σ) (vm i ab (acc++σ)) ?_;rintro _ _ ⟨rfl,rfl⟩;refine⟨_,(ew acc S σ).symm,?_⟩;intro b1;refine eS [_] h (.af 0 b1 0 1 _ rfl (cj rfl)) rfl (by omega) (by decide) (by decide) (fun v' aJ h'=>?_);refine aM (i+1,v',aJ) (by show n-(i+1)<n-i;omega) ⟨ab,?_⟩ ⟨rfl,rfl,rfl,aI (by omega),trivial⟩ (.drop 0 1 (.refl _));show Acc 1 (i+1) v' aJ (((List.range (i+1)).map f).map (AV.ae (.int .u64)));exact LB (I4 f (AV.ae (.int .u64)) i) h'
theorem LD(l:List Int)(x:Int)(σ:Hp)(hl:l.length≤1000000):ACalls Tryz.prog 144 [.ae (.int .i64) l,.int .i64 x] σ (ay (.bool (l.any fun z=>decide (x=z))) σ):=by
 refine ao Tryz.func144 ?_;refine bc (S:=Nat) (fun k=>[(1,.int .i64 x),(7,.ae (.int .i64) l),(8,.int .i64 l.length),(9,.int .i64 k)]) (fun _=>σ) (fun k=>k≤l.length∧((l.take k).any fun z=>decide (x=z))=false) (fun k=>l.length-k) 0 ⟨⟨aV _,rfl⟩,⟨rfl,rfl,rfl,rfl,trivial⟩,rfl⟩ ?_;rintro k g ⟨aK,eR⟩;have hk:k≤l.length:=aK;have ha:((l.take k).any fun z=>decide (x=z))=false:=eR;clear aK eR;refine ai (fun ab=>?_) (fun ak=>?_)
 ·have ab:k<l.length:=by have ab:(k:Int)<l.length:=ab;omega
  have hs:=mH ab fun z:Int=>decide (x=z);rw[ha,l8]at hs;refine aF.mk rfl (aY.mk l[k] (by omega) (get_some ab) ?_);refine ai (p:=l[k]=x) (fun d1=>?_) (fun d1=>?_)
  ·exact .done ⟨bJ (kr.2 ⟨l[k],bU ab,aX d1.symm⟩).symm,rfl⟩
  ·exact aM (k+1) (by show l.length-(k+1)<l.length-k;omega) ⟨ab,hs.trans (cp fun h=>d1 h.symm)⟩ ⟨rfl,rfl,rfl,aI (by omega),trivial⟩ (.refl _)
 ·have ak:k=l.length:=by have ak:¬(k:Int)<l.length:=ak;omega
  subst ak;rw[er]at ha;exact .done ⟨bJ ha.symm,rfl⟩
end Go.Proofs.YtnikdflhefijbaaGreat
namespace Go.Proofs.YtnikdflhefijbaaGreat
def cf:List Nat→Nat
 | []=>0
 |b::l=>cf l*256+b
theorem By(a b c d:Nat)(hb:b<256)(hd:d<256):(a*256+b) &&& (c*256+d)=(a &&& c)*256+(b &&& d):=by
 have yS:b &&& d<256:=HY Nat.and_le_left hb;refine D7 fun i=>?_;rw[HO,AS a,AS c,AS (a &&& c),show (256:Nat)=2 ^ 8 by decide,Na a hb,Na c hd,Na (a &&& c) yS];split
 ·rw[HO]
 ·rw[HO]
def g1(b:Nat):Nat:=(b / 2 &&& 85)+(b &&& 85)
def g2(b:Nat):Nat:=(b / 4 &&& 51)+(b &&& 51)
def g3(b:Nat):Nat:=(b / 16+b) &&& 15
theorem afq:∀h<2,∀b<256,(h*128+b / 2) &&& 85=b / 2 &&& 85:=by decide +kernel
theorem afp:∀h<4,∀b<256,(h*64+b / 4) &&& 51=b / 4 &&& 51:=by decide +kernel
theorem aa4:∀b<256,g1 b≤170:=by decide +kernel
theorem aa3:∀b<256,g2 (g1 b) % 16≤4∧g2 (g1 b) / 16≤4:=by decide +kernel
theorem afo:∀h≤4,∀l≤4,∀k≤4,(k*16+((h*16+l) / 16+(h*16+l))) &&& 15=g3 (h*16+l)∧k*16+((h*16+l) / 16+(h*16+l))<256:=by decide +kernel
def uK(b:Nat):Nat:=g3 (g2 (g1 b))
theorem uh:∀b<256,uK b≤8:=by decide +kernel
theorem X0:∀b<256,uK b=0→b=0:=by decide +kernel
theorem SG:∀(l:List Nat),(∀b∈l,b<256)→(cf l / 2 &&& cf (l.map fun _=>85))+(cf l &&& cf (l.map fun _=>85))=cf (l.map g1)
 | [],_=>rfl
 |b::l,h=>by
  have hb:=h b (.head _);have ih:=SG l (fun x hx=>h x (.tail _ hx));show (((cf l*256+b) / 2) &&& (cf (l.map fun _=>85)*256+85))+((cf l*256+b) &&& (cf (l.map fun _=>85)*256+85))=cf (l.map g1)*256+g1 b;have e:(cf l*256+b) / 2=cf l / 2*256+(cf l % 2*128+b / 2):=by omega
  rw[e,By _ _ _ _ (by omega) (by decide),By _ _ _ _ hb (by decide),afq _ (tL _ (by decide)) _ hb,← ih];show _=_*256+((b / 2 &&& 85)+(b &&& 85));generalize cf l / 2 &&& cf (l.map fun _=>85)=A;generalize cf l &&& cf (l.map fun _=>85)=B;generalize b / 2 &&& 85=C;generalize b &&& 85=D;omega
theorem SF:∀(l:List Nat),(∀b∈l,b<256)→(cf l / 4 &&& cf (l.map fun _=>51))+(cf l &&& cf (l.map fun _=>51))=cf (l.map g2)
 | [],_=>rfl
 |b::l,h=>by
  have hb:=h b (.head _);have ih:=SF l (fun x hx=>h x (.tail _ hx));show (((cf l*256+b) / 4) &&& (cf (l.map fun _=>51)*256+51))+((cf l*256+b) &&& (cf (l.map fun _=>51)*256+51))=cf (l.map g2)*256+g2 b;have e:(cf l*256+b) / 4=cf l / 4*256+(cf l % 4*64+b / 4):=by omega
  rw[e,By _ _ _ _ (by omega) (by decide),By _ _ _ _ hb (by decide),afp _ (tL _ (by decide)) _ hb,← ih];show _=_*256+((b / 4 &&& 51)+(b &&& 51));generalize cf l / 4 &&& cf (l.map fun _=>51)=A;generalize cf l &&& cf (l.map fun _=>51)=B;generalize b / 4 &&& 51=C;generalize b &&& 51=D;omega
theorem Zk:∀(l:List Nat),(∀b∈l,b % 16≤4∧b / 16≤4)→cf l % 16≤4
 | [],_=>by decide
 |b::l,h=>by
  have:=(h b (.head _)).1;show (cf l*256+b) % 16≤4;omega
theorem SE:∀(l:List Nat),(∀b∈l,b % 16≤4∧b / 16≤4)→((cf l / 16+cf l) &&& cf (l.map fun _=>15))=cf (l.map g3)
 | [],_=>rfl
 |b::l,h=>by
  obtain⟨h1,h2⟩:=h b (.head _);have ih:=SE l (fun x hx=>h x (.tail _ hx));have hm:=Zk l (fun x hx=>h x (.tail _ hx));show (((cf l*256+b) / 16+(cf l*256+b)) &&& (cf (l.map fun _=>15)*256+15))=cf (l.map g3)*256+g3 b;have sr:b=b / 16*16+b % 16:=by omega
  obtain⟨f1,f2⟩:=afo _ h2 _ h1 _ hm;rw[← sr]at f1 f2;have e:(cf l*256+b) / 16+(cf l*256+b)=(cf l / 16+cf l)*256+(cf l % 16*16+(b / 16+b)):=by omega
  rw[e,By _ _ _ _ f2 (by decide),f1,ih]
def uz(x:Nat):List Nat:=[x % 256,x / 256 % 256,x / 65536 % 256,x / 16777216 % 256,x / 4294967296 % 256,x / 1099511627776 % 256,x / 281474976710656 % 256,x / 72057594037927936 % 256]
theorem O1{x:Nat}(h:x<18446744073709551616):cf (uz x)=x:=by
 unfold uz cf cf cf cf cf cf cf cf cf;omega
theorem Je(x:Nat):∀b∈uz x,b<256:=by
 intro b hb;simp only[uz,dW,sC,or_false]at hb;omega
def te(x:Nat):Nat:=((uz x).map uK).sum
theorem abH(x:Nat):te x≤64:=by
 have h:=Je x;unfold te uz at *;simp only[pn,List.map_nil,HG,List.sum_nil,dW,sC,or_false,forall_eq_or_imp,forall_eq]at *;obtain⟨h0,h1,h2,h3,h4,h5,h6,h7⟩:=h;have:=uh _ h0;have:=uh _ h1;have:=uh _ h2;have:=uh _ h3;have:=uh _ h4;have:=uh _ h5;have:=uh _ h6;have:=uh _ h7;omega
theorem XZ{x:Nat}(hx:x<18446744073709551616)(h:te x=0):x=0:=by
 have hb:=Je x;have hv:=O1 hx;unfold te at h;generalize uz x=l at *
 have hz:∀b∈l,b=0:=by
  intro b hm;refine X0 b (hb b hm) ?_
  have hle:∀(l:List Nat),b∈l→uK b≤(l.map uK).sum:=by
   intro l
   induction l with
   |nil=>intro h;cases h
   |cons c l ih=>
    intro h;rw[pn,HG]
    rcases dW.1 h with rfl | h
    ·omega
    ·have:=ih h;omega
  have:=hle l hm;omega
 have:∀(l:List Nat),(∀b∈l,b=0)→cf l=0:=by
  intro l
  induction l with
  |nil=>intro _;rfl
  |cons b l ih=>
   intro h;show cf l*256+b=0;rw[ih (fun x hx=>h x (.tail _ hx)),h b (.head _)]
 rw[← hv,this l hz]
theorem afi{e0 e1 e2 e3 e4 e5 e6 e7 x3 y1 y2 y3:Nat}(h:e0≤8∧e1≤8∧e2≤8∧e3≤8∧e4≤8∧e5≤8∧e6≤8∧e7≤8)(hx:x3=cf [e0,e1,e2,e3,e4,e5,e6,e7])(h1:y1=x3+x3 / 256)(h2:y2=y1+y1 / 65536)(h3:y3=y2+y2 / 4294967296):y3 % 128=e0+e1+e2+e3+e4+e5+e6+e7∧y3<9223372036854775808∧y2<18446744073709551616∧y1<18446744073709551616:=by
 obtain⟨k0,k1,k2,k3,k4,k5,k6,k7⟩:=h;obtain⟨T1,MH⟩:∃T,T=cf [e1,e2,e3,e4,e5,e6,e7]:=⟨_,rfl⟩
 obtain⟨T2,DF⟩:∃T,T=cf [e2,e3,e4,e5,e6,e7]:=⟨_,rfl⟩
 obtain⟨T3,MG⟩:∃T,T=cf [e3,e4,e5,e6,e7]:=⟨_,rfl⟩
 obtain⟨T4,MF⟩:∃T,T=cf [e4,e5,e6,e7]:=⟨_,rfl⟩
 obtain⟨T5,ME⟩:∃T,T=cf [e5,e6,e7]:=⟨_,rfl⟩
 obtain⟨T6,MD⟩:∃T,T=cf [e6,e7]:=⟨_,rfl⟩
 obtain⟨T7,MC⟩:∃T,T=cf [e7]:=⟨_,rfl⟩
 have hx:x3=T1*256+e0:=by rw[hx,MH];rfl
 have t1:T1=T2*256+e1:=by rw[MH,DF];rfl
 have t2:T2=T3*256+e2:=by rw[DF,MG];rfl
 have t3:T3=T4*256+e3:=by rw[MG,MF];rfl
 have t4:T4=T5*256+e4:=by rw[MF,ME];rfl
 have t5:T5=T6*256+e5:=by rw[ME,MD];rfl
 have t6:T6=T7*256+e6:=by rw[MD,MC];rfl
 have t7:T7=e7:=by rw[MC];exact dD _
 clear MH DF MG MF ME MD MC;have d1:x3 / 256=T1:=by clear h1 h2 h3 t1 t2 t3 t4 t5 t6 t7;omega
 have u1:y1=(T2+T3)*65536+(e1*256+e2*256+e0+e1):=by rw[h1,d1];clear h1 h2 h3 d1 t3 t4 t5 t6 t7;omega
 have d2:y1 / 65536=T2+T3:=by clear h1 h2 h3 t1 t2 t3 t4 t5 t6 t7 d1 hx;omega
 have u2:y2=(T4+T5+T6+T7)*4294967296+((e0+e1+e2+e3)+(e1+e2+e3+e4)*256+(e2+e3+e4+e5)*65536+(e3+e4+e5+e6)*16777216):=by rw[h2,d2,u1];clear h1 h2 h3 d1 d2 u1 hx t7;omega
 have d3:y2 / 4294967296=T4+T5+T6+T7:=by clear h1 h2 h3 t1 t2 t3 t4 t5 t6 t7 d1 d2 hx u1;omega
 have u3:y3=(T4+T5+T6+T7)*4294967296+((e0+e1+e2+e3)+(e1+e2+e3+e4)*256+(e2+e3+e4+e5)*65536+(e3+e4+e5+e6)*16777216)+(T4+T5+T6+T7):=by rw[h3,d3,u2]
 have b7:T7≤8:=by omega
 have b6:T6≤2056:=by clear u1 u2 u3 d1 d2 d3 h1 h2 h3 hx;omega
 have b5:T5≤526344:=by clear u1 u2 u3 d1 d2 d3 h1 h2 h3 hx;omega
 have b4:T4≤134744072:=by clear u1 u2 u3 d1 d2 d3 h1 h2 h3 hx;omega
 have b3:T3≤34494482440:=by clear u1 u2 u3 d1 d2 d3 h1 h2 h3 hx;omega
 have b2:T2≤8830587504648:=by clear u1 u2 u3 d1 d2 d3 h1 h2 h3 hx;omega
 refine⟨?_,?_,?_,?_⟩
 ·clear u1 u2 d1 d2 d3 h1 h2 h3 hx b2 b3 b4 b5 b6 b7 t1 t2 t3;omega
 ·clear u1 u2 d1 d2 d3 h1 h2 h3 hx t1 t2 t3 t4 t5 t6 t7;omega
 ·clear u1 u3 d1 d2 d3 h1 h2 h3 hx t1 t2 t3 t4 t5 t6 t7;omega
 ·clear u2 u3 d1 d2 d3 h1 h2 h3 hx t1 t2 t3 t4 t5 t6 t7;omega
set_option maxRecDepth 100000
theorem Fo{z:Int}(h:bO z):(z.toNat:Int)=z:=by unfold bO at h;omega
theorem yl{z:Int}(h:bO z):z.toNat<18446744073709551616:=by unfold bO at h;omega
theorem abh{n:Nat}(h:n<18446744073709551616):bO (n:Int):=by unfold bO;omega
theorem Bd{a b:Nat}(ha:a<18446744073709551616)(hb:b<18446744073709551616):bits .and .u64 (a:Int) (b:Int)=((a &&& b:Nat):Int):=by
 show IntKind.u64.wrap ((BitVec.ofInt 64 (a:Int) &&& BitVec.ofInt 64 (b:Int)).toNat:Int)=_;rw[BitVec.toNat_and,BitVec.ofInt_natCast,BitVec.ofInt_natCast,BitVec.toNat_ofNat,BitVec.toNat_ofNat,vI ha,vI hb,IntKind.wrap_u64];have:a &&& b≤a:=Nat.and_le_left;omega
theorem IB{a b:Nat}(ha:a<18446744073709551616)(hb:b<18446744073709551616):bits .or .u64 (a:Int) (b:Int)=((a ||| b:Nat):Int):=by
 show IntKind.u64.wrap ((BitVec.ofInt 64 (a:Int) ||| BitVec.ofInt 64 (b:Int)).toNat:Int)=_;rw[BitVec.toNat_or,BitVec.ofInt_natCast,BitVec.ofInt_natCast,BitVec.toNat_ofNat,BitVec.toNat_ofNat,vI ha,vI hb,IntKind.wrap_u64];have:a ||| b<2 ^ 64:=Nat.or_lt_two_pow ha hb
 have jd:(2:Nat) ^ 64=18446744073709551616:=by decide
 omega
theorem Fi(a:Nat)(k:Nat)(j:Int)(hj:min j.toNat IntKind.u64.bits=k):(a:Int).fdiv (2 ^ min j.toNat IntKind.u64.bits)=((a / 2 ^ k:Nat):Int):=by
 rw[hj,Int.fdiv_eq_ediv_of_nonneg _ (Int.pow_nonneg (by decide)),Int.natCast_ediv,Int.natCast_pow];rfl
theorem JL:∀(l:List Nat),(∀b∈l,b<256)→cf l<256 ^ l.length
 | [],_=>by decide
 |b::l,h=>by
  have:=JL l (fun x hx=>h x (.tail _ hx));have hb:=h b (.head _);show cf l*256+b<256 ^ (l.length+1);rw[Nat.pow_succ];omega
def oA(k m x:Int):Int:=IntKind.u64.wrap (bits .and .u64 (x.fdiv (2 ^ min k.toNat IntKind.u64.bits)) m+bits .and .u64 x m)
def oB(x:Int):Int:=bits .and .u64 (IntKind.u64.wrap (x.fdiv (2 ^ min (4:Int).toNat IntKind.u64.bits)+x)) 1085102592571150095
def oC(k x:Int):Int:=IntKind.u64.wrap (x+x.fdiv (2 ^ min k.toNat IntKind.u64.bits))
def oD(x:Int):Int:=bits .and .i64 (IntKind.i64.wrap x) 127
theorem x7{n:Nat}(h:n<18446744073709551616):IntKind.u64.wrap (n:Int)=n:=by rw[IntKind.wrap_u64];omega
theorem aec(n:Nat)(h:n<9223372036854775808):oD (n:Int)=((n % 128:Nat):Int):=by
 unfold oD;rw[show IntKind.i64.wrap (n:Int)=n by rw[IntKind.wrap_i64];omega];show IntKind.i64.wrap ((BitVec.ofInt 64 (n:Int) &&& BitVec.ofInt 64 (127:Int)).toNat:Int)=_;rw[BitVec.toNat_and,BitVec.ofInt_natCast,BitVec.toNat_ofNat,vI (show n<2 ^ 64 from Nat.lt_trans h (by decide)),show (BitVec.ofInt 64 (127:Int)).toNat=2 ^ 7-1 by decide,Ng,IntKind.wrap_i64];have:(2:Nat) ^ 7=128:=by decide
 omega
theorem ZN{n:Nat}(h:n<18446744073709551616):oD (oC 32 (oC 16 (oC 8 (oB (oA 2 3689348814741910323 (oA 1 6148914691236517205 (n:Int)))))))=(te n:Int):=by
 have hb:=Je n;have hv:=O1 h;obtain⟨l,hl⟩:∃l,l=uz n:=⟨_,rfl⟩
 have hlen:l.length=8:=by rw[hl];rfl
 rw[← hl]at hb hv;have Lr:(256:Nat) ^ 8=18446744073709551616:=by decide
 have l5:∀b∈l.map g1,b<256:=fun b hm=>by
  obtain⟨c,hc,rfl⟩:=eW.1 hm;have:=aa4 c (hb c hc);omega
 have xf:∀b∈(l.map g1).map g2,b % 16≤4∧b / 16≤4:=fun b hm=>by
  obtain⟨c,hc,rfl⟩:=eW.1 hm;obtain⟨d,hd,rfl⟩:=eW.1 hc;exact aa3 d (hb d hd)
 have agA:∀b∈(l.map g1).map g2,b<256:=fun b hm=>by have:=xf b hm;omega
 have m1:cf (l.map fun _=>85)=6148914691236517205:=by rw[HN,hlen];rfl
 have m2:cf ((l.map g1).map fun _=>51)=3689348814741910323:=by rw[HN,cN,hlen];rfl
 have m3:cf (((l.map g1).map g2).map fun _=>15)=1085102592571150095:=by rw[HN,cN,cN,hlen];rfl
 have s1:=SG l hb;have s2:=SF (l.map g1) l5;have s3:=SE ((l.map g1).map g2) xf;rw[m1,hv]at s1;rw[m2]at s2;rw[m3]at s3;have l1:=JL _ l5;have l2:=JL _ agA;rw[cN,hlen,Lr]at l1;rw[cN,cN,hlen,Lr]at l2
 have hA:∀(x m y k:Nat) (j:Int),min j.toNat IntKind.u64.bits=k→x<18446744073709551616→m<18446744073709551616→(x / 2 ^ k &&& m)+(x &&& m)=y→y<18446744073709551616→oA j (m:Int) (x:Int)=(y:Int):=by
  intro x m y k j hj hx hm hy hy2;unfold oA;rw[Fi x k j hj,Bd (HY (Nat.div_le_self _ _) hx) hm,Bd hx hm,← tM,hy];exact x7 hy2
 have e1:=hA n 6148914691236517205 _ 1 1 rfl h (by decide) s1 l1;have e2:=hA _ 3689348814741910323 _ 2 2 rfl l1 (by decide) s2 l2
 have rh:cf ((l.map g1).map g2) / 16+cf ((l.map g1).map g2)<18446744073709551616:=by
  have hz:∀(q:List Nat),(∀b∈q,b % 16≤4∧b / 16≤4)→cf q*2<256 ^ q.length∨q=[]:=by
   intro q
   induction q with
   |nil=>intro _;exact .inr rfl
   |cons b q ih=>
    intro h;have hb:=h b (.head _);refine .inl ?_;show (cf q*256+b)*2<256 ^ (q.length+1);rw[Nat.pow_succ]
    rcases ih (fun x hx=>h x (.tail _ hx)) with h1 | rfl
    ·omega
    ·show (0*256+b)*2<256 ^ 0*256;omega
  rcases hz _ xf with h1 | h1
  ·rw[cN,cN,hlen,Lr]at h1;omega
  ·have:=congrArg List.length h1;rw[cN,cN,hlen]at this;cases this
 have e3:oB (cf ((l.map g1).map g2):Int)=(cf (((l.map g1).map g2).map g3):Int):=by
  unfold oB;rw[Fi _ 4 4 rfl,← tM,show (2:Nat) ^ 4=16 by decide,x7 rh];have:=Bd (b:=1085102592571150095) rh (by decide);rw[s3]at this;exact this
 have hC:∀(x k:Nat) (j:Int),min j.toNat IntKind.u64.bits=k→x+x / 2 ^ k<18446744073709551616→oC j (x:Int)=((x+x / 2 ^ k:Nat):Int):=by
  intro x k j hj hx;unfold oC;rw[Fi x k j hj,← tM];exact x7 hx
 have agf:((l.map g1).map g2).map g3=l.map uK:=by simp[uK,Function.comp_def]
 rw[agf]at e3
 obtain⟨e0,f1,f2,f3,f4,f5,f6,f7,hq,ag8,hle⟩:∃e0 e1 e2 e3 e4 e5 e6 e7,l.map uK=[e0,e1,e2,e3,e4,e5,e6,e7]∧te n=e0+e1+e2+e3+e4+e5+e6+e7∧(e0≤8∧e1≤8∧e2≤8∧e3≤8∧e4≤8∧e5≤8∧e6≤8∧e7≤8):=by
  refine⟨_,_,_,_,_,_,_,_,by rw[hl];rfl,?_,?_⟩
  ·unfold te uz;simp only[pn,List.map_nil,HG,List.sum_nil];omega
  ·refine⟨?_,?_,?_,?_,?_,?_,?_,?_⟩ <;> exact uh _ (tL _ (by decide))
 obtain⟨X,hX⟩:∃X,X=cf (l.map uK):=⟨_,rfl⟩
 rw[← hX]at e3;rw[hq]at hX;obtain⟨g1',g2',g3',g4'⟩:=afi hle hX rfl rfl rfl;have e4:=hC X 8 8 rfl g4';have e5:=hC (X+X / 256) 16 16 rfl g3';have e6:=hC (X+X / 256+(X+X / 256) / 65536) 32 32 rfl (Nat.lt_trans g2' (by decide));have Dq:oA 1 6148914691236517205 (n:Int)=_:=e1;rw[Dq];have rf:oA 2 3689348814741910323 (cf (l.map g1):Int)=_:=e2;rw[rf,e3,e4];have e5:oC 16 ((X+X / 256:Nat):Int)=_:=e5;have e6:oC 32 ((X+X / 256+(X+X / 256) / 65536:Nat):Int)=_:=e6;rw[show ((X+X / 2 ^ 8:Nat):Int)=((X+X / 256:Nat):Int) from rfl,e5,show ((X+X / 256+(X+X / 256) / 2 ^ 16:Nat):Int)=((X+X / 256+(X+X / 256) / 65536:Nat):Int) from rfl,e6];rw[aec _ g2',ag8,← g1']
theorem afB{x:Int}(h:bO x)(σ:Hp):ACalls Tryz.prog 306 [.int .u64 x] σ (ay (.int .i64 (te x.toNat)) σ):=by
 refine ao Tryz.func306 ?_;have hv:=ZN (yl h);rw[Fo h]at hv;refine aF.mk (by decide) ?_;refine e9 ?_;refine e9 ?_;refine e9 ?_;refine e9 ?_;refine e9 ?_;exact .done ⟨aQ hv,rfl⟩
def hasB(a:List Int)(n:Nat):Bool:=(wd a (n / 64)).toNat.testBit (n % 64)
def fO(f:Int→Int→Int)(a b:List Int):List Int:=(List.range (max a.length b.length)).map fun i=>f (wd a i) (wd b i)
theorem sL(f:Int→Int→Int)(a b:List Int):(fO f a b).length=max a.length b.length:=by simp[fO]
theorem BG(f:Int→Int→Int)(a b:List Int){i:Nat}(h:i<max a.length b.length):wd (fO f a b) i=f (wd a i) (wd b i):=by
 unfold fO wd;rw[fD,A1 h];rfl
theorem xY{a:List Int}{i:Nat}(h:a.length≤i):wd a i=0:=by unfold wd;rw[sE h];rfl
theorem mg(b:List Int){i:Nat}(h:i<b.length):wd b i=b[i]:=by unfold wd;rw[bu h];rfl
theorem SB{a b:List Int}(hl:a.length=b.length)(h:∀i,i<a.length→wd a i=wd b i):a=b:=by
 refine Ig hl fun i h1 h2=>?_;have:=h i h1;rw[mg a h1,mg b h2]at this;exact this
theorem Kg{n:Nat}{f:Nat→Int}(h:∀i,i<n→bO (f i)):bC ((List.range n).map f):=fun z hz=>by
 obtain⟨i,hi,rfl⟩:=eW.1 hz;exact h i (gP.1 hi)
abbrev lZ(x y:Int):Int:=bits .or .u64 x y
abbrev jv(x y:Int):Int:=bits .andNot .u64 x y
theorem adF(x y:Int):bO (lZ x y):=BI _
theorem Ku(x y:Int):bO (jv x y):=BI _
theorem toNat_ofInt{z:Int}(h:bO z):(BitVec.ofInt 64 z).toNat=z.toNat:=by
 have:=yl h;rw[BitVec.toNat_ofInt];unfold bO at h;omega
theorem RU{x y:Int}(hx:bO x)(hy:bO y)(k:Nat):(lZ x y).toNat.testBit k=(x.toNat.testBit k||y.toNat.testBit k):=by
 have e:lZ x y=((BitVec.ofInt 64 x ||| BitVec.ofInt 64 y).toNat:Int):=by
  show IntKind.u64.wrap _=_;exact x7 (BitVec.isLt _)
 rw[e,bD,BitVec.toNat_or,HJ,toNat_ofInt hx,toNat_ofInt hy]
theorem J5{x y:Int}(hx:bO x)(hy:bO y){k:Nat}(hk:k<64):(jv x y).toNat.testBit k=(x.toNat.testBit k&&!y.toNat.testBit k):=by
 have e:jv x y=((BitVec.ofInt 64 x &&& ~~~BitVec.ofInt 64 y).toNat:Int):=by
  show IntKind.u64.wrap _=_;exact x7 (BitVec.isLt _)
 rw[e,bD,BitVec.testBit_toNat,BitVec.getLsbD_and,BitVec.getLsbD_not,aX hk,yU,← BitVec.testBit_toNat,← BitVec.testBit_toNat,toNat_ofInt hx,toNat_ofInt hy]
def iy(T:List Int)(n:Nat):List Int:=(List.range T.length).map fun i=>(((wd T i).toNat % 2 ^ min 64 (n-64*i):Nat):Int)
theorem tW(T:List Int)(n:Nat):(iy T n).length=T.length:=by simp[iy]
theorem zG(T:List Int)(n:Nat){i:Nat}(h:i<T.length):wd (iy T n) i=(((wd T i).toNat % 2 ^ min 64 (n-64*i):Nat):Int):=by
 unfold iy;unfold wd;rw[fD,A1 h];rfl
theorem QE(T:List Int):iy T 0=List.replicate T.length 0:=by
 refine List.ext_getElem (by simp[iy]) fun i h1 h2=>?_;rw[List.getElem_replicate,← mg _ h1,zG T 0 (by simpa [iy]using h1),Nat.zero_sub,Nat.min_zero,Nat.pow_zero,Nat.mod_one];rfl
theorem mod_succ(x k:Nat):x % 2 ^ (k+1)=if x.testBit k then x % 2 ^ k ||| 2 ^ k else x % 2 ^ k:=by
 refine D7 fun i=>?_;cases hb:x.testBit k with
 |false=>
  rw[aB (by decide),H6,H6]
  by_cases h1:i<k
  ·rw[aX (show i<k+1 by omega),aX h1]
  ·by_cases h2:i=k
   ·subst h2;rw[hb];simp
   ·rw[cp (show ¬i<k+1 by omega),cp h1]
 |true=>
  rw[az rfl,HJ,H6,H6,M0]
  by_cases h1:i<k
  ·rw[decide_eq_true (show i<k+1 by omega),decide_eq_true h1,decide_eq_false (show ¬k=i by omega)];simp
  ·by_cases h2:i=k
   ·subst h2;rw[hb];simp
   ·rw[cp (show ¬i<k+1 by omega),cp h1,cp (show ¬k=i by omega)];rfl
theorem ZF{T:List Int}{n:Nat}(h:n<64*T.length):iy T (n+1)=if hasB T n then (iy T n).set (n / 64) (lZ (wd (iy T n) (n / 64)) ((2 ^ (n % 64):Nat):Int)) else iy T n:=by
 have hi:n / 64<T.length:=by omega
 have hk:n % 64<64:=tL _ (by decide)
 have ab:∀m,(wd T (n / 64)).toNat % 2 ^ min 64 m<18446744073709551616:=fun m=>by
  have h1:(wd T (n / 64)).toNat % 2 ^ min 64 m<2 ^ min 64 m:=tL _ (AU _);have h2:2 ^ min 64 m≤2 ^ 64:=xx (by decide) (Nat.min_le_left _ _);have h3:(2:Nat) ^ 64=18446744073709551616:=by decide
  omega
 have hp:2 ^ (n % 64)<18446744073709551616:=by
  have h2:2 ^ (n % 64)<2 ^ 64:=Nat.pow_lt_pow_right (by decide) hk;exact h2
 have e1:min 64 (n-64*(n / 64))=n % 64:=by omega
 have e2:min 64 (n+1-64*(n / 64))=n % 64+1:=by omega
 have hm:=mod_succ (wd T (n / 64)).toNat (n % 64);have SX:∀i,i≠n / 64→min 64 (n+1-64*i)=min 64 (n-64*i):=fun i bf=>by omega
 unfold hasB;refine SB ?_ fun i HA=>?_
 ·rw[tW];split
  ·rw[dY,tW]
  ·rw[tW]
 ·rw[tW]at HA;rw[zG T _ HA];cases hb:(wd T (n / 64)).toNat.testBit (n % 64) with
  |true=>
   rw[hb,az rfl]at hm;rw[az rfl]
   by_cases hc:i=n / 64
   ·subst hc
    have hs:wd ((iy T n).set (n / 64) (lZ (wd (iy T n) (n / 64)) ((2 ^ (n % 64):Nat):Int))) (n / 64)=lZ (wd (iy T n) (n / 64)) ((2 ^ (n % 64):Nat):Int):=by
     unfold wd;rw[List.getElem?_set_self (by rw[tW];exact hi)];rfl
    have agm:=ab (n-64*(n / 64));rw[hs,zG T n hi,show lZ _ _=_ from IB agm hp,e2,e1,hm]
   ·have hs:wd ((iy T n).set (n / 64) (lZ (wd (iy T n) (n / 64)) ((2 ^ (n % 64):Nat):Int))) i=wd (iy T n) i:=by
     unfold wd;rw[List.getElem?_set_ne (fun h=>hc h.symm)]
    rw[hs,zG T n HA,SX i hc]
  |false=>
   rw[hb,aB (by decide)]at hm;rw[aB (by decide),zG T n HA]
   by_cases hc:i=n / 64
   ·subst hc;rw[e2,e1,hm]
   ·rw[SX i hc]
def eF(w:Int):Nat:=(min (max w 0) 1024).toNat
def dS(w:Int):Nat:=(eF w+63) / 64
theorem BY(w:Int):eF w≤1024:=by unfold eF;omega
theorem xU(w:Int):dS w≤16:=by have:=BY w;unfold dS;omega
theorem Rh(n:Int):(if (1024:Int)<(if n<0 then 0 else n) then (1024:Int) else (if n<0 then 0 else n))=((eF n:Nat):Int):=by
 unfold eF
 by_cases h:n<0
 ·simp only[az h];omega
 ·simp only[aB h];split <;> omega
def fu(w:Int):List Int:=(List.range (dS w)).map fun i=>((2 ^ min 64 (eF w-64*i)-1:Nat):Int)
theorem ny(w:Int):(fu w).length=dS w:=by simp[fu]
theorem Ff(w:Int){i:Nat}(h:i<dS w):wd (fu w) i=((2 ^ min 64 (eF w-64*i)-1:Nat):Int):=by
 unfold fu wd;rw[fD,A1 h];rfl
theorem aeV(m:Nat):2 ^ min 64 m≤18446744073709551616:=xx (by decide) (Nat.min_le_left _ _)
theorem Q5(w:Int):bC (fu w):=Kg fun i _=>abh (by
 have:=aeV (eF w-64*i);have:=AU (min 64 (eF w-64*i))
 omega)
def fw(a:List Int)(w:Int):Bool:=decide (a.length=dS w)&&(List.range a.length).all fun i=>decide ((wd a i).toNat<2 ^ min 64 (eF w-64*i))
theorem Ja{a:List Int}{w:Int}(jd:bC a)(hl:a.length=dS w):fw a w=true↔∀n,eF w≤n→n<64*a.length→hasB a n=false:=by
 unfold fw hasB;rw[aX hl,yU,fq];constructor
 ·intro h n h1 h2;have hi:n / 64<a.length:=by omega
  have:=h (n / 64) (gP.2 hi);simp only[decide_eq_true_eq]at this;refine y4 (tN this (xx (by decide) ?_));omega
 ·intro h i hi;have hi:=gP.1 hi;rw[decide_eq_true_eq];have UF:=yl (pO jd i)
  rcases sx (eF w-64*i) 64 with hc | hc
  ·rw[Nat.min_eq_right (by omega)];refine Nat.lt_pow_two_of_testBit _ fun k hk=>?_
   rcases sx k 64 with dR | dR
   ·have:=h (64*i+k) (by omega) (by omega);rw[show (64*i+k) / 64=i by omega,show (64*i+k) % 64=k by omega]at this;exact this
   ·refine y4 (tN UF ?_);exact xx (by decide:0<2) dR
  ·rw[yX hc];exact UF
theorem Yu{a:List Int}{w:Int}(jd:bC a)(hl:a.length=dS w):fw a w=true↔∀i,i<a.length→jv (wd a i) (wd (fu w) i)=0:=by
 unfold fw;rw[aX hl,yU,fq]
 have hf:∀i,i<a.length→((wd a i).toNat<2 ^ min 64 (eF w-64*i)↔jv (wd a i) (wd (fu w) i)=0):=by
  intro i hi;have ha:=pO jd i;have hb:=pO (Q5 w) i;have hn:(wd (fu w) i).toNat=2 ^ min 64 (eF w-64*i)-1:=by rw[Ff w (by omega),bD]
  constructor
  ·intro h
   have hz:(jv (wd a i) (wd (fu w) i)).toNat=0:=by
    refine D7 fun k=>?_;rw[Nat.zero_testBit]
    rcases sx k 64 with hk | hk
    ·rw[J5 ha hb hk,hn,Nb]
     by_cases dR:k<min 64 (eF w-64*i)
     ·rw[decide_eq_true dR];simp
     ·rw[y4 (tN h (xx (by decide) (by omega)))];rfl
    ·exact y4 (tN (yl (Ku _ _)) (xx (by decide:0<2) hk))
   have:=Fo (Ku (wd a i) (wd (fu w) i));omega
  ·intro h;refine Nat.lt_pow_two_of_testBit _ fun k hk=>?_
   rcases sx k 64 with dR | dR
   ·have hz:=J5 ha hb dR;rw[h,hn,Nb,cp (by omega)]at hz;have h0:(0:Int).toNat.testBit k=false:=Nat.zero_testBit k;rw[h0]at hz;simpa using hz.symm
   ·exact y4 (tN (yl ha) (xx (by decide:0<2) dR))
 constructor
 ·intro h i hi;exact (hf i hi).1 (by simpa using h i (List.mem_range.2 hi))
 ·intro h i hi;have hi:=gP.1 hi;rw[decide_eq_true_eq];exact (hf i hi).2 (h i hi)
theorem Sf(a:List Int)(i:Nat)(σ:Hp):ACalls Tryz.prog 334 [.ae (.int .u64) a,.int .i64 i] σ (ay (.int .u64 (wd a i)) σ):=by
 refine ao Tryz.func334 ?_;refine ai (fun c=>?_) (fun c=>?_)
 ·have c:(a.length:Int)≤(i:Int):=c;exact .done ⟨aQ (xY (by omega)).symm,rfl⟩
 ·have c:i<a.length:=by have c:¬(a.length:Int)≤(i:Int):=c;omega
  refine aF.mk rfl (aY.mk a[i] (by omega) (get_some c) ?_);exact .done ⟨aQ (mg a c).symm,rfl⟩
theorem Tu(n:Int)(σ:Hp):ACalls Tryz.prog 210 [.int .i64 n] σ (ay (.int .i64 (eF n)) σ):=by
 refine ao Tryz.func210 ?_;exact .done ⟨aQ (Rh n),rfl⟩
theorem Zr(n:Int):(IntKind.i64.wrap (IntKind.i64.wrap ((eF n:Nat)+64)-1)).tdiv 64=((dS n:Nat):Int):=by
 have:=BY n;rw[IntKind.wrap_i64,IntKind.wrap_i64];unfold dS;rw[go2 (by omega)];omega
theorem Pb(n:Int):IntKind.i64.wrap ((dS n:Nat):Int)=((dS n:Nat):Int):=by
 have:=xU n;rw[IntKind.wrap_i64];omega
theorem FL(n:Int)(σ:Hp):ACalls Tryz.prog 153 [.int .i64 n] σ (ay (.int .i64 (dS n)) σ):=by
 refine ao Tryz.func153 ?_;refine aw [] (Tu n _) ?_;refine aF.mk (by decide) ?_;exact .done ⟨aQ (by rw[Zr,Pb]),rfl⟩
theorem Tw(g:FuncId)(f:Int→Int→Int)(hg:∀(x y:Int) (σ:Hp),ACalls Tryz.prog g [.int .u64 x,.int .u64 y] σ (ay (.int .u64 (f x y)) σ))(a b:List Int)(σ:Hp)(ha:a.length≤100000)(hb:b.length≤100000):ACalls Tryz.prog 307 [.ae (.int .u64) a,.ae (.int .u64) b,.fn (.func g) [] []] σ (ay (.ae (.int .u64) (fO f a b)) σ):=by
 refine ao Tryz.func307 ?_;obtain⟨n,hn⟩:∃n,n=max a.length b.length:=⟨_,rfl⟩
 have sa:(if (a.length:Int)<b.length then (b.length:Int) else a.length)=(n:Int):=by split <;> omega
 have rq:(fO f a b).length=n:=by rw[sL,hn]
 refine .wrap 7 _ rfl rfl ?_;refine bc (S:=Nat×AV×Hp) (fun s=>[(0,.ae (.int .u64) a),(1,.ae (.int .u64) b),(2,.fn (.func g) [] []),(7,.via s.2.1),(13,.int .i64 n),(14,.int .i64 s.1)]) (fun s=>s.2.2++σ) (fun s=>s.1≤n∧Acc 1 s.1 s.2.1 s.2.2 (aU ((fO f a b).take s.1))) (fun s=>n-s.1) (0,.ag,[]) ⟨⟨aV _,.nil⟩,⟨rfl,rfl,rfl,rfl,aQ sa,rfl,trivial⟩,rfl⟩ ?_;rintro⟨k,v,acc⟩ s ⟨aK,fX⟩;have hk:k≤n:=aK;have bF:Acc 1 k v acc (aU ((fO f a b).take k)):=fX;clear aK fX;refine ai (fun ab=>?_) (fun ak=>?_)
 ·have ab:k<n:=by have ab:(k:Int)<n:=ab;omega
  have he:(fO f a b)[k]'(by omega)=f (wd a k) (wd b k):=by rw[← mg,BG f a b (by omega)]
  refine aw [] (Sf a k _) ?_;refine aw [] (Sf b k _) ?_;refine aw [] (hg _ _ _) ?_;intro ax;refine eS [_] bF (.af 0 ax 0 1 _ rfl (cj rfl)) rfl (by omega) (by decide) (by decide) (fun v' aJ h'=>?_);refine aM (k+1,v',aJ) (by show n-(k+1)<n-k;omega) ⟨ab,?_⟩ ⟨rfl,rfl,rfl,rfl,rfl,aI (by omega),trivial⟩ (.drop 0 1 (aL rfl));show Acc 1 (k+1) v' aJ (aU ((fO f a b).take (k+1)));rw[eM (by omega),he,aU,cE];exact h'
 ·have ak:k=n:=by have ak:¬(k:Int)<n:=ak;omega
  subst ak;rw[dZ (by omega)]at bF;exact lH (s:=.int .u64) (l:=fO f a b) [] bF rq.symm (by rw[nz]) (by decide) (.done ⟨rfl,rfl⟩)
theorem acK(x y:Int)(σ:Hp):ACalls Tryz.prog 328 [.int .u64 x,.int .u64 y] σ (ay (.int .u64 (lZ x y)) σ):=by
 refine ao Tryz.func328 ?_;exact .done ⟨rfl,rfl⟩
theorem ad1(x y:Int)(σ:Hp):ACalls Tryz.prog 308 [.int .u64 x,.int .u64 y] σ (ay (.int .u64 (jv x y)) σ):=by
 refine ao Tryz.func308 ?_;exact .done ⟨rfl,rfl⟩
theorem aek(a b:List Int)(σ:Hp)(ha:a.length≤100000)(hb:b.length≤100000):ACalls Tryz.prog 300 [.ae (.int .u64) a,.ae (.int .u64) b] σ (ay (.ae (.int .u64) (fO lZ a b)) σ):=by
 refine ao Tryz.func300 ?_;refine aw [] (Tw _ _ acK a b _ ha hb) ?_;exact .done ⟨rfl,rfl⟩
theorem Tl(a b:List Int)(σ:Hp)(ha:a.length≤100000)(hb:b.length≤100000):ACalls Tryz.prog 284 [.ae (.int .u64) a,.ae (.int .u64) b] σ (ay (.ae (.int .u64) (fO jv a b)) σ):=by
 refine ao Tryz.func284 ?_;refine aw [] (Tw _ _ ad1 a b _ ha hb) ?_;exact .done ⟨rfl,rfl⟩
theorem KU(n:Nat)(h:n≤100000000):IntKind.i64.wrap ((n:Int).tdiv 64)=((n / 64:Nat):Int):=by
 rw[go2 (by omega),IntKind.wrap_i64];omega
theorem KI(n:Nat):(n:Int).tmod 64=((n % 64:Nat):Int):=by
 rw[A9 (by omega)];omega
theorem TC(k:Nat)(h:k<64):IntKind.u64.wrap (1*2 ^ min ((k:Nat):Int).toNat IntKind.u64.bits)=((2 ^ k:Nat):Int):=by
 have e:min ((k:Nat):Int).toNat IntKind.u64.bits=k:=by show min k 64=k;omega
 rw[e,Int.one_mul,show ((2:Int) ^ k)=((2 ^ k:Nat):Int) by rw[Int.natCast_pow];rfl];exact x7 (tN (Nat.pow_lt_pow_right (by decide) h) (bg _))
theorem s5{l:List Int}{i:Nat}(h:i<l.length)(x:Int){z:Int}(hz:z=i):kC ⟨.int .u64,1,8,[.int .u64 0]⟩ (aU l) (0+z.toNat*1) (.int .u64 x)=some (aU (l.set i x)):=by
 subst hz;have e:0+((i:Int)).toNat*1=i:=by omega
 rw[e];have h2:Nat.ble (i+1) (aU l).length=true:=Nat.ble_eq_true_of_le (by simp[aU];omega);show (match Nat.beq 1 1,Nat.ble (i+1) (aU l).length with | true,true=>some (fG (aU l) i [.int .u64 x]) | _,_=>none)=_;rw[h2];show some ((aU l).set i (.int .u64 x))=_;simp[aU,List.map_set]
theorem Gt{l:List Int}{i:Nat}(h:i<l.length){z:Int}(hz:z=i):ef ⟨.int .u64,1,8,[.int .u64 0]⟩ (aU l) (0+z.toNat*1)=some (.int .u64 (wd l i)):=by
 subst hz;have e:0+((i:Int)).toNat*1=i:=by omega
 rw[e];show (aU l)[i]?=_;unfold aU wd;rw[fD,bu h];rfl
theorem PS(w:Int){n:Nat}(h:n<eF w):iy (fu w) (n+1)=(iy (fu w) n).set (n / 64) (lZ (wd (iy (fu w) n) (n / 64)) ((2 ^ (n % 64):Nat):Int)):=by
 have hs:(fu w).length=dS w:=ny w;have hl:n<64*(fu w).length:=by rw[hs];unfold dS;omega
 have hb:hasB (fu w) n=true:=by
  unfold hasB;rw[Ff w (by unfold dS;omega),bD,Nb];exact aX (by omega)
 rw[ZF hl,az hb]
theorem Q4(w:Int):iy (fu w) (eF w)=fu w:=by
 refine SB (tW _ _) fun i hi=>?_;rw[tW]at hi;rw[zG _ _ hi];rw[ny]at hi;rw[Ff w hi,bD,vI];have:=AU (min 64 (eF w-64*i));omega
theorem Uf(w:Int)(σ:Hp):ACalls Tryz.prog 203 [.int .i64 w] σ (ay (.ae (.int .u64) (fu w)) σ):=by
 refine ao Tryz.func203 ?_;have dG:=xU w;have HC:=BY w;refine aw [] (FL w _) ?_;refine a8 ?_;intro q;refine aw [] (Tu w _) ?_;refine bc (S:=Nat) (fun s=>[(3,.af q 0 (dS w) 1),(9,.int .i64 (eF w)),(10,.int .i64 s)]) (fun s=>(q,aU (iy (fu w) s))::σ) (fun s=>s≤eF w) (fun s=>eF w-s) 0 ⟨aV _,⟨rfl,rfl,rfl,trivial⟩,?_⟩ ?_
 ·show (q,cP [.int .u64 0] (((dS w:Nat):Int)).toNat)::σ=(q,aU (iy (fu w) 0))::σ;rw[QE,ny,bD,zt]
 intro n g ep;have hn:n≤eF w:=ep;clear ep;refine ai (fun ab=>?_) (fun ak=>?_)
 ·have ab:n<eF w:=by have ab:(n:Int)<eF w:=ab;omega
  have hi:n / 64<(iy (fu w) n).length:=by rw[tW,ny];unfold dS;omega
  have xc:n / 64<dS w:=by unfold dS;omega
  have hd:=KU n (by omega);have hm:=KI n;refine .sched [] (upto [] 11 0) (by kernel_rfl) ?_;refine e9 ?_;refine aH ?_;refine aS 0 rfl (Gt hi hd) ?_;have Eg:=TC (n % 64) (by omega);rw[← hm]at Eg;refine e9 ?_;refine e9 ?_;refine aH ?_;refine bM 0 rfl (s5 hi _ hd) ?_;refine aM (n+1) (by show eF w-(n+1)<eF w-n;omega) ab ⟨rfl,rfl,aI (by omega),trivial⟩ (aL ?_);rw[PS w ab,← Eg];rfl
 ·have ak:n=eF w:=by have ak:¬(n:Int)<eF w:=ak;omega
  subst ak;rw[Q4];exact .cb 0 q 0 (dS w) 1 _ (.int .u64) (fu w) rfl (by rw[List.drop_zero,← nz];exact List.take_of_length_le (by simp[aU,ny])) ⟨ny w,rfl,by decide⟩ .here (.done ⟨rfl,rfl⟩)
def nV(a:List Int):Nat:=(a.map fun z=>te z.toNat).sum
theorem acr(a:List Int):nV a≤64*a.length:=by
 unfold nV
 induction a with
 |nil=>simp
 |cons x a ih=>have:=abH x.toNat;simp only[pn,HG,gH];omega
theorem YF(a:List Int){k:Nat}(h:k<a.length):nV (a.take (k+1))=nV (a.take k)+te (a[k]).toNat:=by
 unfold nV;rw[List.take_succ_eq_append_getElem h,List.map_append,List.sum_append];simp
theorem YE{a:List Int}(ha:bC a):nV a=0↔∀i,i<a.length→wd a i=0:=by
 unfold nV;rw[List.sum_eq_zero_iff_forall_eq_nat];constructor
 ·intro h i hi;have h1:=h _ (eW.2 ⟨a[i],bU hi,rfl⟩);have:=XZ (yl (ha _ (bU hi))) h1;have hw:=Fo (ha _ (bU hi));rw[mg a hi,← hw,this];rfl
 ·intro h x hx;obtain⟨z,hz,rfl⟩:=eW.1 hx;obtain⟨i,hi,rfl⟩:=vK.1 hz;have:=h i hi;rw[mg a hi]at this;rw[this];rfl
theorem afr{a b:Nat}(h:a+b<1000000000):IntKind.i64.wrap ((a:Int)+(b:Int))=((a+b:Nat):Int):=by rw[IntKind.wrap_i64];omega
theorem aeC(a:List Int)(σ:Hp)(hl:a.length≤100000)(ha:bC a):ACalls Tryz.prog 283 [.ae (.int .u64) a] σ (ay (.int .i64 (nV a)) σ):=by
 refine ao Tryz.func283 ?_;refine bc (S:=Nat) (fun s=>[(3,.int .i64 (nV (a.take s))),(6,.ae (.int .u64) a),(7,.int .i64 a.length),(8,.int .i64 s)]) (fun _=>σ) (fun s=>s≤a.length) (fun s=>a.length-s) 0 ⟨aV _,⟨rfl,rfl,rfl,rfl,trivial⟩,rfl⟩ ?_;intro k g aK;have hk:k≤a.length:=aK;clear aK;refine ai (fun ab=>?_) (fun ak=>?_)
 ·have ab:k<a.length:=by have ab:(k:Int)<a.length:=ab;omega
  refine aF.mk rfl (aY.mk a[k] (by omega) (get_some ab) ?_);refine aw [] (afB (ha _ (bU ab)) _) ?_;have h1:=acr (a.take (k+1));have h2:=YF a ab;rw[oh]at h1;refine aM (k+1) (by show a.length-(k+1)<a.length-k;omega) ab ⟨aQ (by rw[h2];exact afr (by omega)),rfl,rfl,aI (by omega),trivial⟩ (.refl _)
 ·have ak:k=a.length:=by have ak:¬(k:Int)<a.length:=ak;omega
  subst ak;rw[er];exact .done ⟨rfl,rfl⟩
theorem E8(a b:List Int):bC (fO jv a b):=Kg fun _ _=>Ku _ _
theorem acC(a b:List Int)(σ:Hp)(ha:a.length≤10000)(hb:b.length≤10000):ACalls Tryz.prog 249 [.ae (.int .u64) a,.ae (.int .u64) b] σ (ay (.bool (decide (nV (fO jv a b)=0))) σ):=by
 refine ao Tryz.func249 ?_;refine aw [] (Tl a b _ (by omega) (by omega)) ?_;refine aw [] (aeC _ _ (by rw[sL];omega) (E8 a b)) ?_;refine ai (fun c=>?_) (fun c=>?_)
 ·have c:nV (fO jv a b)=0:=by have c:((nV (fO jv a b):Nat):Int)=0:=c;omega
  exact .done ⟨bJ (aX c).symm,rfl⟩
 ·have c:nV (fO jv a b)≠0:=by have c:¬((nV (fO jv a b):Nat):Int)=0:=c;omega
  exact .done ⟨bJ (cp c).symm,rfl⟩
theorem VA{a:List Int}{w:Int}(jd:bC a)(hl:a.length=dS w):decide (nV (fO jv a (fu w))=0)=fw a w:=by
 rw[DZ,decide_eq_true_eq,YE (E8 _ _),Yu jd hl,sL,ny,hl,Nat.max_self];refine⟨fun h i hi=>?_,fun h i hi=>?_⟩
 ·rw[← BG jv a (fu w) (by rw[hl];omega)];exact h i hi
 ·rw[BG jv a (fu w) (by rw[hl];omega)];exact h i hi
theorem B1(a:List Int)(w:Int)(σ:Hp)(jd:bC a)(ha:a.length≤10000):ACalls Tryz.prog 199 [.ae (.int .u64) a,.int .i64 w] σ (ay (.bool (fw a w)) σ):=by
 refine ao Tryz.func199 ?_;refine aw [] (FL w _) ?_;have dG:=xU w;refine ai (fun c=>?_) (fun c=>?_)
 ·have c:a.length=dS w:=by have c:(a.length:Int)=dS w:=c;omega
  refine aw [] (Uf w _) ?_;refine aw [] (acC a _ _ ha (by rw[ny];omega)) ?_;exact .done ⟨bJ (VA jd c),rfl⟩
 ·have c:a.length≠dS w:=by have c:¬(a.length:Int)=dS w:=c;omega
  have hf:fw a w=false:=by unfold fw;rw[cp c];rfl
  rw[hf];exact .done ⟨rfl,rfl⟩
theorem J8(n:Int)(σ:Hp):ACalls Tryz.prog 165 [.int .i64 n] σ (ay (.int .i64 (eF n)) σ):=by
 refine ao Tryz.func165 ?_;exact .done ⟨aQ (Rh n),rfl⟩
theorem XM(n:Int):(IntKind.i64.wrap ((eF n:Nat)+63)).tdiv 64=((dS n:Nat):Int):=by
 have:=BY n;rw[IntKind.wrap_i64];unfold dS;rw[go2 (by omega)];omega
theorem Kw(n:Int)(σ:Hp):ACalls Tryz.prog 115 [.int .i64 n] σ (ay (.int .i64 (dS n)) σ):=by
 refine ao Tryz.func115 ?_;refine aw [] (J8 n _) ?_;refine aF.mk (by decide) ?_;exact .done ⟨aQ (by rw[XM,Pb]),rfl⟩
theorem ac9{x:Int}(ha:bO x){k:Nat}(h:k<64){z:Int}(hz:z=k):(bits .and .u64 (x.fdiv (2 ^ min z.toNat IntKind.u64.bits)) 1=1)↔x.toNat.testBit k=true:=by
 subst hz;have e:min ((k:Int)).toNat IntKind.u64.bits=k:=by show min k 64=k;omega
 have hw:=Fo ha;rw[← hw,Fi _ _ _ e];have ab:=yl ha;rw[show (1:Int)=((1:Nat):Int) from rfl,Bd (HY (Nat.div_le_self _ _) ab) (by decide)];rw[bD,Nat.and_one_is_mod,Nat.testBit_eq_decide_div_mod_eq,decide_eq_true_eq];omega
theorem afF(a:List Int)(n:Nat)(σ:Hp)(jd:bC a)(hn:n≤1000000):ACalls Tryz.prog 178 [.ae (.int .u64) a,.int .i64 n] σ (ay (.bool (hasB a n)) σ):=by
 refine ao Tryz.func178 ?_;have hd:=KU n (by omega);have hm:=KI n;refine e9 ?_;refine ai (fun c1=>?_) (fun c1=>?_)
 ·have c1:IntKind.i64.wrap ((↑n:Int).tdiv 64)<(↑a.length:Int):=c1;refine e9 ?_;have hi:n / 64<a.length:=by omega
  refine aF.mk rfl (aY.mk a[n / 64] (by omega) (by rw[hd];exact get_some hi) ?_);have hq:=ac9 (ha:=jd _ (bU hi)) (k:=n % 64) (by omega) hm;have hb:hasB a n=a[n / 64].toNat.testBit (n % 64):=by unfold hasB;rw[mg a hi]
  refine e9 ?_;refine e9 ?_;refine ai (fun c2=>.done ⟨bJ ?_,rfl⟩) (fun c2=>.done ⟨bJ ?_,rfl⟩)
  ·rw[hb];exact (hq.1 c2).symm
  ·rw[hb];exact (yV.2 fun h=>c2 (hq.2 h)).symm
 ·have c1:¬(IntKind.i64.wrap ((↑n:Int).tdiv 64)<(↑a.length:Int)):=c1;have hb:hasB a n=false:=by unfold hasB;rw[xY (by omega)];simp
  rw[hb];exact .done ⟨rfl,rfl⟩
theorem aef(l:List Int)(n q len:Nat)(σ:Hp)(hl:l.length=len)(hm:len≤10000)(hn:n / 64<len):ACalls Tryz.prog 280 [.af q 0 len 1,.int .i64 n] ((q,aU l)::σ) (fun r σ'=>∃b,r=.af b 0 len 1∧σ'=(b,aU (l.set (n / 64) (lZ (wd l (n / 64)) ((2 ^ (n % 64):Nat):Int))))::(q,aU l)::σ):=by
 refine ao Tryz.func280 ?_;have hd:=KU n (by omega);have hm:=KI n;intro ax;have agq:(aU l).length=len*1:=by simp[aU,hl]
 have hle:0+len*1≤(aU l).length:=by omega
 have iG:((aU l).drop 0).take (len*1)=aU l:=dZ (by rw[fy];omega);refine eS [] (acc:=[(ax,[])]) (k:=0) (cs:=[]) (n:=len) (.af ax 0 [] rfl) (.af 1 q 0 len (aU l) rfl hle) (by rw[iG];exact agq) (by omega) (by decide) (by decide) (fun v' aJ h'=>?_);rw[dD,iG,sA]at h';generalize fU:aU l=cs at h';cases h' with
 |nil=>omega
 |af b k cs h=>
 subst fU;have hi:n / 64<l.length:=by omega
 refine .sched [] (upto [] 14 0) (by kernel_rfl) ?_;refine e9 ?_;refine e9 ?_;refine aH ?_;refine aS 0 rfl (Gt hi hd) ?_;have Eg:=TC (n % 64) (by omega);rw[← hm]at Eg;refine e9 ?_;refine e9 ?_;refine aH ?_;refine bM 0 rfl (s5 hi _ hd) ?_;rw[← Eg];exact .done ⟨_,rfl,rfl⟩
theorem KA(a:List Int)(w:Int)(σ:Hp)(jd:bC a):ACalls Tryz.prog 128 [.ae (.int .u64) a,.int .i64 w] σ (ay (.bool (fw a w)) σ):=by
 refine ao Tryz.func128 ?_;have dG:=xU w;have HC:=BY w;refine aw [] (Kw w _) ?_;refine cO (fun c=>?_) (fun c=>?_)
 ·have c:a.length≠dS w:=by have c:(!decide ((a.length:Int)=(dS w:Int)))=true:=c;simp at c;omega
  have hf:fw a w=false:=by unfold fw;rw[cp c];rfl
  rw[hf];exact .done ⟨rfl,rfl⟩
 ·have c:a.length=dS w:=by have c:(!decide ((a.length:Int)=(dS w:Int)))=false:=c;simp at c;omega
  refine aw [] (J8 w _) ?_;refine bc (S:=Nat) (fun s=>[(0,.ae (.int .u64) a),(5,.int .i64 s)]) (fun _=>σ) (fun s=>eF w≤s∧s≤64*a.length∧∀n,eF w≤n→n<s→hasB a n=false) (fun s=>64*a.length-s) (eF w) ⟨⟨bg _,?_,fun n h1 h2=>by omega⟩,⟨rfl,rfl,trivial⟩,rfl⟩ ?_
  ·rw[c];unfold dS;omega
  intro k g aK;obtain⟨jr,dR,hk3⟩:eF w≤k∧k≤64*a.length∧∀n,eF w≤n→n<k→hasB a n=false:=aK;refine ai (fun ab=>?_) (fun ak=>?_)
  ·have ab:k<64*a.length:=by
    have ab:(k:Int)<IntKind.i64.wrap (64*(a.length:Int)):=ab;rw[IntKind.wrap_i64]at ab;omega
   refine dc [] (afF a k _ jd (by omega)) (fun cA=>?_) (fun cA=>?_)
   ·have hf:fw a w=false:=yV.2 fun h=>by
     have:=(Ja jd c).1 h k jr ab;rw[cA]at this;exact absurd this (by decide)
    rw[hf];exact .done ⟨rfl,rfl⟩
   ·refine aM (k+1) (by show 64*a.length-(k+1)<64*a.length-k;omega) ⟨by omega,by omega,fun n h1 h2=>?_⟩ ⟨rfl,aI (by omega),trivial⟩ (.refl _)
    rcases sx n k with h3 | h3
    ·exact hk3 n h1 h3
    ·rw[show n=k by omega];exact cA
  ·have ak:k=64*a.length:=by
    have ak:¬(k:Int)<IntKind.i64.wrap (64*(a.length:Int)):=ak;rw[IntKind.wrap_i64]at ak;omega
   have hf:fw a w=true:=(Ja jd c).2 fun n h1 h2=>hk3 n h1 (by omega);rw[hf];exact .done ⟨rfl,rfl⟩
def aT(n:Int):Int:=(n+32768) % 65536-32768
theorem zi(n:Int): -32768≤aT n:=by unfold aT;omega
theorem zj(n:Int):aT n≤32767:=by unfold aT;omega
theorem Oy(n:Int):(0≤n∧n.tmod 65536=n % 65536)∨(n<0∧n.tmod 65536 = -((-n) % 65536)):=by
 by_cases h:0≤n
 ·exact .inl ⟨h,A9 h⟩
 ·refine .inr ⟨by omega,?_⟩;have:=Int.neg_tmod (-n) 65536;rw[Int.neg_neg,A9 (a:= -n) (by omega)]at this;exact this
theorem F4(n:Int)(σ:Hp):ACalls Tryz.prog 335 [.int .i64 n] σ (ay (.int .i64 (aT n)) σ):=by
 refine ao Tryz.func335 ?_;have hc:=Oy n;refine e9 ?_;refine ai (fun h1=>?_) (fun h1=>?_)
 ·have h1:32767<n.tmod 65536:=h1;exact .done ⟨aQ (by rw[IntKind.wrap_i64];unfold aT;omega),rfl⟩
 ·have h1:¬(32767<n.tmod 65536):=h1;refine ai (fun h2=>?_) (fun h2=>?_)
  ·have h2:n.tmod 65536 < -32768:=h2;exact .done ⟨aQ (by rw[IntKind.wrap_i64];unfold aT;omega),rfl⟩
  ·have h2:¬(n.tmod 65536 < -32768):=h2;exact .done ⟨aQ (by unfold aT;omega),rfl⟩
theorem SL(n:Int)(σ:Hp):ACalls Tryz.prog 261 [.int .i64 n] σ (ay (.int .i64 (aT n)) σ):=by
 refine ao Tryz.func261 ?_;have hc:=Oy n;have e:IntKind.i64.wrap (n.tmod 65536+98304)=n.tmod 65536+98304:=by rw[IntKind.wrap_i64];omega
 have e2:(n.tmod 65536+98304).tmod 65536=(n.tmod 65536+98304) % 65536:=A9 (by omega);refine e9 ?_;refine e9 ?_;exact .done ⟨aQ (by rw[e,e2,IntKind.wrap_i64];unfold aT;omega),rfl⟩
abbrev nC(x y:Int):List AV:=[.int .i64 x,.int .i64 y]
theorem CV(a b:Int)(σ:Hp):ACalls Tryz.prog 309 [.int .i64 a,.int .i64 b] σ (ay (.agg (nC (aT a) (aT b))) σ):=by
 refine ao Tryz.func309 ?_;intro b1;refine aw [] (F4 _ _) ?_;refine aw [] (F4 _ _) ?_;refine ah 0 ?_;refine aa 0 ?_;exact .drop 0 1 (.done ⟨rfl,rfl⟩)
theorem afR(a b:Int)(σ:Hp):ACalls Tryz.prog 223 [.int .i64 a,.int .i64 b] σ (ay (.agg (nC (aT a) (aT b))) σ):=by
 refine ao Tryz.func223 ?_;intro b1;refine aw [] (SL _ _) ?_;refine aw [] (SL _ _) ?_;refine ah 0 ?_;refine aa 0 ?_;exact .drop 0 1 (.done ⟨rfl,rfl⟩)
theorem agF(x y:Int)(σ:Hp):ACalls Tryz.prog 286 [.agg (nC x y)] σ (ay (.bool (decide (x=aT x)&&decide (y=aT y))) σ):=by
 refine ao Tryz.func286 ?_;intro ax;refine .quiet (by kernel_rfl) ?_;refine aa 0 ?_;refine aa 0 ?_;refine aa 0 ?_;refine aN [] (CV _ _ _) ?_;refine EqAt.mk (by kernel_rfl) (by kernel_rfl) ?_
 have e:eP (oP (nC x y) (nC (aT x) (aT y)))=(decide (x=aT x)&&decide (y=aT y)):=by
  show (decide (x=aT x)&&(decide (y=aT y)&&true))=_;rw[DT]
 rw[← e];refine cO (fun c=>?_) (fun c=>?_)
 ·have c:eP (oP (nC x y) (nC (aT x) (aT y)))=true:=c;rw[c];exact .drop 0 1 (.done ⟨rfl,rfl⟩)
 ·have c:eP (oP (nC x y) (nC (aT x) (aT y)))=false:=c;rw[c];exact .drop 0 1 (.done ⟨rfl,rfl⟩)
theorem xX(x y:Int)(σ:Hp):ACalls Tryz.prog 364 [.agg (nC x y)] σ (ay (.fK (aT x) (aT y)) σ):=by
 have h1:=zi x;have h2:=zj x;have h3:=zi y;have h4:=zj y;refine ao Tryz.func364 ?_;intro ax;refine aa 0 ?_;refine aa 0 ?_;refine aw [] (CV _ _ _) ?_;refine ah 0 ?_;refine aa 0 ?_;refine .mk (by unfold gW;omega) ?_;refine aa 0 ?_;refine .mk (by unfold gW;omega) ?_;exact .drop 0 1 (.done ⟨rfl,rfl⟩)
theorem SV{x:Int}(h:gW x):IntKind.i64.min≤x∧x≤IntKind.i64.max:=by
 unfold gW at h;have e1:IntKind.i64.min = -9223372036854775808:=by decide
 have e2:IntKind.i64.max=9223372036854775807:=by decide
 rw[e1,e2];omega
theorem F5(x y:Int)(σ:Hp)(hx:gW x)(hy:gW y):ACalls Tryz.prog 363 [.fK x y] σ (ay (.agg (nC (aT x) (aT y))) σ):=by
 refine ao Tryz.func363 ?_;intro ax;refine .mk (SV hx) ?_;refine .mk (SV hy) ?_;refine aw [] (CV _ _ _) ?_;refine ah 0 ?_;refine aa 0 ?_;exact .drop 0 1 (.done ⟨rfl,rfl⟩)
theorem EV{a b:Int}(ha : -32768≤a∧a≤32768)(hb : -32768≤b∧b≤32768): -1073741824≤a*b∧a*b≤1073741824:=by
 have h1:a.natAbs*b.natAbs≤32768*32768:=oe (by omega) (by omega);rw[← HI]at h1;omega
theorem FY(a b c d:Int):(-32768≤aT a∧aT a≤32767)∧(-32768≤aT b∧aT b≤32767)∧(-32768≤aT c∧aT c≤32767)∧-32768≤aT d∧aT d≤32767:=
 ⟨⟨zi a,zj a⟩,⟨zi b,zj b⟩,⟨zi c,zj c⟩,zi d,zj d⟩
theorem afY(a b c d:Int):(-1073741824≤aT a*aT c∧aT a*aT c≤1073741824)∧(-1073741824≤aT b*aT d∧aT b*aT d≤1073741824)∧(-1073741824≤aT a*aT d∧aT a*aT d≤1073741824)∧-1073741824≤aT b*aT c∧aT b*aT c≤1073741824:=by
 have h:=FY a b c d;exact⟨EV (by omega) (by omega),EV (by omega) (by omega),EV (by omega) (by omega),EV (by omega) (by omega)⟩
theorem afh(a b c d:Int)(σ:Hp):ACalls Tryz.prog 356 [.agg (nC a b),.agg (nC c d)] σ (ay (.agg (nC (aT (aT a+aT c)) (aT (aT b+aT d)))) σ):=by
 have hF:=FY a b c d;refine ao Tryz.func356 ?_;intro ax;intro bX;intro kX;refine .sched [1,3,5] (upto [1,3,5] 7 0) (by kernel_rfl) ?_;refine aa 2 ?_;refine aN [] (xX _ _ _) ?_;refine aa 1 ?_;refine aN [] (xX _ _ _) ?_;refine .mk (by unfold gW;omega) ?_;refine aN [] (F5 _ _ _ (by unfold gW;omega) (by unfold gW;omega)) ?_;refine ah 0 ?_;refine aa 0 ?_;exact .drop 0 3 (.done ⟨rfl,rfl⟩)
theorem aff(a b c d:Int)(σ:Hp):ACalls Tryz.prog 357 [.agg (nC a b),.agg (nC c d)] σ (ay (.agg (nC (aT (aT a-aT c)) (aT (aT b-aT d)))) σ):=by
 have hF:=FY a b c d;refine ao Tryz.func357 ?_;intro ax;intro bX;intro kX;refine .sched [1,3,5] (upto [1,3,5] 7 0) (by kernel_rfl) ?_;refine aa 2 ?_;refine aN [] (xX _ _ _) ?_;refine aa 1 ?_;refine aN [] (xX _ _ _) ?_;refine .mk (by unfold gW;omega) ?_;refine aN [] (F5 _ _ _ (by unfold gW;omega) (by unfold gW;omega)) ?_;refine ah 0 ?_;refine aa 0 ?_;exact .drop 0 3 (.done ⟨rfl,rfl⟩)
theorem afg(a b c d:Int)(σ:Hp):ACalls Tryz.prog 358 [.agg (nC a b),.agg (nC c d)] σ (ay (.agg (nC (aT (aT a*aT c-aT b*aT d)) (aT (aT a*aT d+aT b*aT c)))) σ):=by
 have hF:=afY a b c d;refine ao Tryz.func358 ?_;intro ax;intro bX;intro kX;refine .sched [1,3,5] (upto [1,3,5] 7 0) (by kernel_rfl) ?_;refine aa 2 ?_;refine aN [] (xX _ _ _) ?_;refine aa 1 ?_;refine aN [] (xX _ _ _) ?_;refine .mk (by unfold gW;omega) ?_;refine aN [] (F5 _ _ _ (by unfold gW;omega) (by unfold gW;omega)) ?_;refine ah 0 ?_;refine aa 0 ?_;exact .drop 0 3 (.done ⟨rfl,rfl⟩)
theorem ae2(a b:Int)(σ:Hp):ACalls Tryz.prog 359 [.agg (nC a b)] σ (ay (.agg (nC (aT (aT a)) (aT (-aT b)))) σ):=by
 have hF:=FY a b 0 0;refine ao Tryz.func359 ?_;intro ax;intro bX;refine aa 1 ?_;refine aw [] (xX _ _ _) ?_;refine aw [] (F5 _ _ _ (by unfold gW;omega) (by unfold gW;omega)) ?_;refine ah 0 ?_;refine aa 0 ?_;exact .drop 0 2 (.done ⟨rfl,rfl⟩)
def qc(op a b c d:Int):Option (Int×Int):=
 if op=0 then some (aT a,aT b) else
 if op=1 then some (aT (aT a+aT c),aT (aT b+aT d)) else
 if op=2 then some (aT (aT a-aT c),aT (aT b-aT d)) else
 if op=3 then some (aT (aT a*aT c-aT b*aT d),aT (aT a*aT d+aT b*aT c)) else
 if op=4 then some (aT (aT a),aT (-aT b)) else none
def yC(r:Option (Int×Int))(ok err:AV):AV:=match r with | some (x,y)=>.tup [.agg (nC x y),ok] | none=>.tup [.agg (nC 0 0),err]
theorem Ls(op a b c d:Int)(σ:Hp):ACalls Tryz.prog 344 [.int .i64 op,.agg (nC a b),.agg (nC c d)] σ (ay (yC (qc op a b c d) (.int .i64 0) (.int .i64 10)) σ):=by
 refine ao Tryz.func344 ?_;intro ax;intro bX;intro kX;intro El;refine ai (fun c5=>?_) (fun c5=>?_)
 ·have c5:op=0:=c5;refine aa 3 ?_;refine aa 3 ?_;refine aw [] (CV _ _ _) ?_;refine ah 0 ?_;refine .fwd 1 ?_;refine aa 0 ?_;refine ah 1 ?_;refine aa 1 ?_;exact .drop 0 4 (.done ⟨(by simp[qc,yC, *];rfl),rfl⟩)
 ·have c5:¬(op=0):=c5;refine ai (fun c6=>?_) (fun c6=>?_)
  ·have c6:op=1:=c6;refine aa 3 ?_;refine aa 2 ?_;refine aw [] (afh _ _ _ _ _) ?_;refine ah 0 ?_;refine .fwd 1 ?_;refine aa 0 ?_;refine ah 1 ?_;refine aa 1 ?_;exact .drop 0 4 (.done ⟨(by simp[qc,yC, *];rfl),rfl⟩)
  ·have c6:¬(op=1):=c6;refine ai (fun c7=>?_) (fun c7=>?_)
   ·have c7:op=2:=c7;refine aa 3 ?_;refine aa 2 ?_;refine aw [] (aff _ _ _ _ _) ?_;refine ah 0 ?_;refine .fwd 1 ?_;refine aa 0 ?_;refine ah 1 ?_;refine aa 1 ?_;exact .drop 0 4 (.done ⟨(by simp[qc,yC, *];rfl),rfl⟩)
   ·have c7:¬(op=2):=c7;refine ai (fun c8=>?_) (fun c8=>?_)
    ·have c8:op=3:=c8;refine aa 3 ?_;refine aa 2 ?_;refine aw [] (afg _ _ _ _ _) ?_;refine ah 0 ?_;refine .fwd 1 ?_;refine aa 0 ?_;refine ah 1 ?_;refine aa 1 ?_;exact .drop 0 4 (.done ⟨(by simp[qc,yC, *];rfl),rfl⟩)
    ·have c8:¬(op=3):=c8;refine ai (fun c9=>?_) (fun c9=>?_)
     ·have c9:op=4:=c9;refine aa 3 ?_;refine aw [] (ae2 _ _ _) ?_;refine ah 0 ?_;refine .fwd 1 ?_;refine aa 0 ?_;refine ah 1 ?_;refine aa 1 ?_;exact .drop 0 4 (.done ⟨(by simp[qc,yC, *];rfl),rfl⟩)
     ·have c9:¬(op=4):=c9;refine ah 1 ?_;refine aa 1 ?_;exact .drop 0 4 (.done ⟨(by simp[qc,yC, *];rfl),rfl⟩)
def sY(x y:Int):Int:=aT x % 65536+65536*(aT y % 65536)
theorem E3(x y:Int):0≤sY x y:=by unfold sY;omega
theorem Jl(x y:Int):sY x y<4294967296:=by unfold sY;omega
theorem Uh(n:Int):IntKind.u16.wrap n=n % 65536:=by simp[IntKind.wrap,IntKind.bits,IntKind.signed]
theorem SR(k:Nat){a b:Nat}(ha:a<2 ^ k)(hb:2 ^ k*b<18446744073709551616)(hk:2 ^ k<18446744073709551616):bits .or .u64 (a:Int) ((2 ^ k*b:Nat):Int)=((2 ^ k*b+a:Nat):Int):=by
 rw[IB (by omega) hb,Nat.or_comm,Nc ha b]
theorem abb(x y:Int):bits BinOp.or IntKind.u64 (IntKind.u64.wrap (IntKind.u16.wrap (aT x))) (IntKind.u64.wrap (IntKind.u64.wrap (IntKind.u16.wrap (aT y))*2 ^ min (Int.toNat 16) IntKind.u64.bits))=sY x y:=by
 have e:(2:Int) ^ min (Int.toNat 16) IntKind.u64.bits=65536:=by decide
 rw[e,Uh,Uh,IntKind.wrap_u64,IntKind.wrap_u64,IntKind.wrap_u64];unfold sY;generalize aT x=p;generalize aT y=q;have h:=SR 16 (a:=(p % 65536).toNat) (b:=(q % 65536).toNat) (by omega) (by omega) (by decide);have e1:(((p % 65536).toNat:Nat):Int)=p % 65536 % 18446744073709551616:=by omega
 have e2:((2 ^ 16*(q % 65536).toNat:Nat):Int)=q % 65536 % 18446744073709551616*65536 % 18446744073709551616:=by omega
 rw[e1,e2]at h;rw[h];omega
theorem ae1(x y:Int)(σ:Hp):ACalls Tryz.prog 342 [.agg (nC x y)] σ (ay (.int .u64 (sY x y)) σ):=by
 refine ao Tryz.func342 ?_;intro ax;refine .quiet (by kernel_rfl) ?_;refine aa 0 ?_;refine aN [] (F4 _ _) ?_;refine aa 0 ?_;refine aN [] (F4 _ _) ?_;refine e9 ?_;exact .drop 0 1 (.done ⟨aQ (abb x y),rfl⟩)
def n5(x y:Int):Int:=2+4*sY x y
theorem Gu(x y:Int)(σ:Hp):ACalls Tryz.prog 331 [.agg (nC x y)] σ (ay (.int .u64 (n5 x y)) σ):=by
 refine ao Tryz.func331 ?_;intro ax;refine aa 0 ?_;refine aw [] (ae1 _ _ _) ?_;refine e9 ?_
 have e:bits BinOp.or IntKind.u64 2 (IntKind.u64.wrap (sY x y*2 ^ min (Int.toNat 2) IntKind.u64.bits))=n5 x y:=by
  have e:(2:Int) ^ min (Int.toNat 2) IntKind.u64.bits=4:=by decide
  have h1:=E3 x y;have h2:=Jl x y;rw[e,IntKind.wrap_u64];unfold n5;generalize sY x y=p at h1 h2 ⊢;have h:=SR 2 (a:=2) (b:=p.toNat) (by decide) (by omega) (by decide);have e2:((2 ^ 2*p.toNat:Nat):Int)=p*4 % 18446744073709551616:=by omega
  rw[e2]at h;exact h.trans (by omega)
 exact .drop 0 1 (.done ⟨aQ e,rfl⟩)
def oK(w:Int):Int:=if fI w then aT (w / 4 % 65536) else 0
def oL(w:Int):Int:=if fI w then aT (w / 4 / 65536) else 0
theorem aa2(w:Int)(σ:Hp)(h:bO w):ACalls Tryz.prog 285 [.int .u64 w] σ (ay (if w<4294967296 then .tup [.agg (nC (aT (w % 65536)) (aT (w / 65536))),.bool true] else .tup [.agg (nC 0 0),.bool false]) σ):=by
 have e:=BL (k:=32) (m:=32) (w:=w) (by decide);have e16:w.fdiv (2 ^ min (Int.toNat 16) IntKind.u64.bits)=w / 65536:=BL (k:=16) (m:=16) (w:=w) (by decide)
 have ea:bits .and .u64 w 65535=w % 65536:=by
  show IntKind.u64.wrap ((BitVec.ofInt 64 w &&& BitVec.ofInt 64 65535).toNat:Int)=_;have h3:(BitVec.ofInt 64 65535:BitVec 64).toNat=2 ^ 16-1:=by decide
  rw[BitVec.toNat_and,h3,Ng,BitVec.toNat_ofInt,IntKind.wrap_u64];omega
 have h1:=h.1;have h2:=h.2;refine ao Tryz.func285 ?_;intro b1;refine e9 ?_;refine cO (fun h2=>?_) (fun h2=>?_)
 ·have h2:¬(w.fdiv (2 ^ min (Int.toNat 32) IntKind.u64.bits)=0):=by simpa using h2
  have hw:¬(w<4294967296):=fun h=>h2 (by rw[show w.fdiv (2 ^ min (Int.toNat 32) IntKind.u64.bits)=w / 2 ^ 32 from e];omega);refine ah 0 ?_;refine aa 0 ?_;rw[aB hw];exact .drop 0 1 (.done ⟨rfl,rfl⟩)
 ·have h2:w.fdiv (2 ^ min (Int.toNat 32) IntKind.u64.bits)=0:=by simpa using h2
  have hw:w<4294967296:=by rw[show w.fdiv (2 ^ min (Int.toNat 32) IntKind.u64.bits)=w / 2 ^ 32 from e]at h2;omega
  refine e9 ?_;refine aw [] (CV _ _ _) ?_;refine ah 0 ?_;refine aa 0 ?_;rw[az hw];have x1:IntKind.i64.wrap (bits .and .u64 w 65535)=w % 65536:=by rw[ea,IntKind.wrap_i64];omega
  have x2:IntKind.i64.wrap (w.fdiv (2 ^ min (Int.toNat 16) IntKind.u64.bits))=w / 65536:=by rw[e16,IntKind.wrap_i64];omega
  rw[← x1,← x2];exact .drop 0 1 (.done ⟨rfl,rfl⟩)
theorem z6(w:Int)(σ:Hp)(h:bO w):ACalls Tryz.prog 251 [.int .u64 w] σ (ay (.tup [.agg (nC (oK w) (oL w)),.bool (fI w)]) σ):=by
 have e:=BL (k:=2) (m:=2) (w:=w) (by decide);have h0:=h.1;have MS:=h.2;refine ao Tryz.func251 ?_;intro b1;refine cO (fun h2=>?_) (fun h2=>?_)
 ·have h2:¬(bits BinOp.and IntKind.u64 w 3=2):=by simpa using h2
  rw[GA]at h2;have hn:fI w=false:=by simp[fI,h2]
  refine ah 0 ?_;refine aa 0 ?_;unfold oK oL;rw[hn];exact .drop 0 1 (.done ⟨rfl,rfl⟩)
 ·have h2:bits BinOp.and IntKind.u64 w 3=2:=by simpa using h2
  rw[GA]at h2;refine e9 ?_;have e':w.fdiv (2 ^ min (Int.toNat 2) IntKind.u64.bits)=w / 4:=e;refine aw [] (aa2 _ _ ⟨by rw[e'];omega,by rw[e'];omega⟩) ?_;unfold oK oL
  by_cases hw:w<17179869184
  ·have hn:fI w=true:=by simp[fI,h2];omega
   rw[az (show w.fdiv (2 ^ min (Int.toNat 2) IntKind.u64.bits)<4294967296 by rw[e'];omega),hn];refine ah 0 ?_;refine aa 0 ?_;rw[e'];exact .drop 0 1 (.done ⟨rfl,rfl⟩)
  ·have hn:fI w=false:=by simp[fI,h2];omega
   rw[aB (show ¬w.fdiv (2 ^ min (Int.toNat 2) IntKind.u64.bits)<4294967296 by rw[e'];omega),hn];refine ah 0 ?_;refine aa 0 ?_;exact .drop 0 1 (.done ⟨rfl,rfl⟩)
theorem jF{n:Int}(h : -4611686018427387904≤n∧n≤4611686018427387904):IntKind.i64.wrap n=n:=by rw[IntKind.wrap_i64];omega
end Go.Proofs.YtnikdflhefijbaaGreat
