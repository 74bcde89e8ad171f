import Derived.Test.YtnikdflhefijbaaGreatBn7
import Derived.Test.YtnikdflhefijbaaGreatBn6
namespace Go.Proofs.YtnikdflhefijbaaGreat
open Go.RowKit
set_option maxRecDepth 100000
abbrev ns:Type:=Int×Int×Unit
def eT(n:Nat):List Int:=(List.range n).map fun k:Nat=>(k:Int)
def rS(raw:List Int)(i:Nat):Int:=if raw.length=0 then 0 else raw.getD (i % raw.length) 0
def sZ(n:Nat)(w:List Int):List Int:=if w.length=0 then eT n else w
def eS(n:Nat)(raw:List Int):Nat→List ns×List Int
 | 0=>([],[])
 |i+1=>((eS n raw i).1++[((sZ n (eS n raw i).2).getD (cb (rS raw i) (sZ n (eS n raw i).2).length) 0,rS raw i,())],
  (sZ n (eS n raw i).2).eraseIdx (cb (rS raw i) (sZ n (eS n raw i).2).length))
theorem J9(n:Nat)(raw:List Int):∀i,(eS n raw i).1.length=i
 | 0=>rfl
 |i+1=>by
  show (_++[_]).length=_
  rw[bP,J9 n raw i];rfl
theorem Km(n:Nat):(eT n).length=n:=by unfold eT;rw[cm,pN]
theorem zI{i:TI}{K:AV→Hp→Prop}(fr:Hp){acc σ:Hp}{k n:Nat}{v x:AV}{cs new:List AV}(h:Acc i.size k v acc cs)(hx:kc (fr++(acc++σ)) i.size x n new)(ik:new.length=n*i.size)(hn:k+n≤1048576)(hb:i.bytes≤1024)(h0:0<i.size)
  (go:∀v' aU,Acc i.size (k+n) v' aU (cs++new)→K v' (fr++(aU++σ))):AppendAt i (fr++(acc++σ)) v x K:=by
 have hl:=h.length
 cases h with
 |nil=>
  refine .perm _ (fC fr [] σ) (.fresh n new (.inl rfl) (hx.perm (fC fr [] σ)) (by omega) hb h0 (K:=fun v eb=>(n=0∧v=.aj∧eb=[]++(fr++σ))∨(n≠0∧∃b,v=.ae b 0 n i.size∧eb=(b,new)::([]++(fr++σ)))) (fun aS b=>.inr ⟨aS,b,rfl,rfl⟩) (fun h0=>.inl ⟨h0,rfl,rfl⟩)) ?_
  rintro v eb (⟨hz,rfl,rfl⟩ | ⟨hz,b,rfl,rfl⟩)
  ·subst hz
   obtain rfl:new=[]:=List.length_eq_zero_iff.1 (by simpa using ik)
   exact⟨_,(fC fr [] σ).symm,.inl (go _ _ .nil)⟩
  ·refine⟨_,(fC fr [(b,new)] σ).symm,.inl (go _ _ ?_)⟩
   have:=Acc.ae (e:=i.size) b (0+n) new (by rw[ik,ef])
   rw[ef]at this ⊢
   exact this
 |ae b k cs h=>
  refine .perm _ (fC fr [(b,cs)] σ) (.more 0 b k n cs new rfl rfl (by rw[h];exact a8 _) (hx.perm (fC fr [(b,cs)] σ)) hn hb h0 (K:=fun v eb=>∃b',v=.ae b' 0 (k+n) i.size∧eb=(b',cs.take (k*i.size)++new)::(fr++σ)) (fun b'=>⟨b',rfl,rfl⟩)) ?_
  rintro v eb ⟨b',rfl,rfl⟩
  rw[eG (by omega)]
  exact⟨_,(fC fr [(b',cs++new)] σ).symm,.inl (go _ _ (.ae _ _ _ (by rw[bP,h,ik,qB])))⟩
theorem nf(f:List Hp)(σ:Hp){a b:List Nat}(h:a.Perm b):(a.foldr (fun i t=>f.getD i []++t) σ).Perm (b.foldr (fun i t=>f.getD i []++t) σ):=by
 induction h with
 |nil=>exact .refl _
 |cons x _ ih=>exact ih.append_left _
 |swap x y l=>exact fC _ _ _
 |trans _ _ Ef Ee=>exact Ef.trans Ee
set_option maxHeartbeats 4000000
theorem YR{β:Type}(f:Nat→β)(c:β→AV)(i:Nat):((List.range (i+1)).map f).map c=((List.range i).map f).map c++[c (f i)]:=by
 rw[sH,cO,cO];rfl
theorem agt{e k:Nat}{v:AV}{acc:Hp}{cs cs':List AV}(h:cs=cs')(ha:Acc e k v acc cs'):Acc e k v acc cs:=h▸ha
theorem aeI(g:FuncId)(cap:List AV)(St:List Nat→Hp→Prop)(S0 σ:Hp)(h0:St [] S0)(n:Nat)(hn:n≤100000)(Eu:∀(L:List Nat) (S τ:Hp),L.length<n→St L S→ACalls Tryz.prog g (.int .i64 L.length::cap) (S++τ) (fun r σ'=>∃w S',r=.ptr w 0∧σ'=S'++τ∧St (L++[w]) S')):ACalls Tryz.prog 98 [.int .i64 n,.fn (.func g) [] cap] (S0++σ) (fun r σ'=>∃L S' acc,L.length=n∧St L S'∧Acc 1 n r acc (L.map fun w=>.ptr w 0)∧σ'=acc++(S'++σ)):=by
 refine az Tryz.func98 ?_
 refine .wrap 5 .aj rfl rfl ?_
 refine cc (S:=List Nat×AV×Hp×{S:Hp // True}) (fun t=>[(1,.fn (.func g) [] cap),(5,.via t.2.1),(7,.int .i64 n),(8,.int .i64 t.1.length)]) (fun t=>t.2.2.1++(t.2.2.2.1++σ)) (fun t=>t.1.length≤n∧Acc 1 t.1.length t.2.1 t.2.2.1 (t.1.map (fun w=>AV.ptr w 0))∧St t.1 t.2.2.2.1) (fun t=>n-t.1.length) ([],.aj,[],⟨S0,trivial⟩) ⟨⟨bD _,.nil,h0⟩,⟨rfl,rfl,rfl,rfl,trivial⟩,rfl⟩ ?_
 rintro⟨L,v,acc,⟨S,_⟩⟩ g2 ⟨gk,h0,EL⟩
 have hi:L.length≤n:=gk
 have h:Acc 1 L.length v acc (L.map (fun w=>AV.ptr w 0)):=h0
 have hS:St L S:=EL
 clear gk h0 EL
 refine aq (p:=(L.length:Int)<(n:Int)) (fun ab=>?_) (fun au=>?_)
 rotate_left
 ·have au:L.length=n:=by omega
  exact .done ⟨L,S,acc,au,hS,au▸h,rfl⟩
 have ab:L.length<n:=by omega
 refine .perm (σ2:=S++(acc++σ)) _ (fC acc S σ) (Eu L S (acc++σ) ab hS) ?_
 rintro _ _ ⟨w,S',rfl,rfl,Bq⟩
 refine⟨_,(fC acc S' σ).symm,?_⟩
 intro b1
 refine ic [_] h (.ae 0 b1 0 1 _ rfl (cD rfl)) rfl (by omega) (by decide) (by decide) (fun v' aU h'=>?_)
 refine bj (L++[w],v',aU,⟨S',trivial⟩) (by show n-(L++[w]).length<n-L.length;rw[bP];simp only[sJ];omega) ⟨by rw[bP];exact ab,?_,Bq⟩ ⟨rfl,rfl,rfl,?_,trivial⟩ (.drop 0 1 (.refl _))
 ·show Acc 1 (L++[w]).length v' aU ((L++[w]).map (fun w=>AV.ptr w 0))
  rw[bP,cO]
  exact h'
 ·rw[bP]
  exact aY (show L.length<1000000000 by omega)
theorem Uz(g:FuncId)(cap:List AV)(St:List Nat→Hp→Prop)(S0 σ:Hp)(h0:St [] S0)(n:Nat)(hn:n≤100000)(Eu:∀(L:List Nat) (S τ:Hp),L.length<n→St L S→ACalls Tryz.prog g (.int .i64 L.length::cap) (S++τ) (fun r σ'=>∃w S',r=.iface 168 (.ptr w 0)∧σ'=S'++τ∧St (L++[w]) S')):ACalls Tryz.prog 102 [.int .i64 n,.fn (.func g) [] cap] (S0++σ) (fun r σ'=>∃L S' acc,L.length=n∧St L S'∧Acc 1 n r acc (L.map fun w=>.iface 168 (.ptr w 0))∧σ'=acc++(S'++σ)):=by
 refine az Tryz.func102 ?_
 refine .wrap 5 .aj rfl rfl ?_
 refine cc (S:=List Nat×AV×Hp×{S:Hp // True}) (fun t=>[(1,.fn (.func g) [] cap),(5,.via t.2.1),(7,.int .i64 n),(8,.int .i64 t.1.length)]) (fun t=>t.2.2.1++(t.2.2.2.1++σ)) (fun t=>t.1.length≤n∧Acc 1 t.1.length t.2.1 t.2.2.1 (t.1.map (fun w=>AV.iface 168 (.ptr w 0)))∧St t.1 t.2.2.2.1) (fun t=>n-t.1.length) ([],.aj,[],⟨S0,trivial⟩) ⟨⟨bD _,.nil,h0⟩,⟨rfl,rfl,rfl,rfl,trivial⟩,rfl⟩ ?_
 rintro⟨L,v,acc,⟨S,_⟩⟩ g2 ⟨gk,h0,EL⟩
 have hi:L.length≤n:=gk
 have h:Acc 1 L.length v acc (L.map (fun w=>AV.iface 168 (.ptr w 0))):=h0
 have hS:St L S:=EL
 clear gk h0 EL
 refine aq (p:=(L.length:Int)<(n:Int)) (fun ab=>?_) (fun au=>?_)
 rotate_left
 ·have au:L.length=n:=by omega
  exact .done ⟨L,S,acc,au,hS,au▸h,rfl⟩
 have ab:L.length<n:=by omega
 refine .perm (σ2:=S++(acc++σ)) _ (fC acc S σ) (Eu L S (acc++σ) ab hS) ?_
 rintro _ _ ⟨w,S',rfl,rfl,Bq⟩
 refine⟨_,(fC acc S' σ).symm,?_⟩
 intro b1
 refine ic [_] h (.ae 0 b1 0 1 _ rfl (cD rfl)) rfl (by omega) (by decide) (by decide) (fun v' aU h'=>?_)
 refine bj (L++[w],v',aU,⟨S',trivial⟩) (by show n-(L++[w]).length<n-L.length;rw[bP];simp only[sJ];omega) ⟨by rw[bP];exact ab,?_,Bq⟩ ⟨rfl,rfl,rfl,?_,trivial⟩ (.drop 0 1 (.refl _))
 ·show Acc 1 (L++[w]).length v' aU ((L++[w]).map (fun w=>AV.iface 168 (.ptr w 0)))
  rw[bP,cO]
  exact h'
 ·rw[bP]
  exact aY (show L.length<1000000000 by omega)
theorem aeJ(g:FuncId)(cap:List AV)(S σ:Hp)(f:Nat→List Int)(n:Nat)(hn:n≤100000)(Eu:∀i:Nat,i<n→∀τ,ACalls Tryz.prog g (.int .i64 i::cap) (S++τ) (aE (.af (.int .u64) (f i)) (S++τ))):ACalls Tryz.prog 104 [.int .i64 n,.fn (.func g) [] cap] (S++σ) (aE (.af (.slice (.int .u64)) ((List.range n).map f)) (S++σ)):=by
 refine az Tryz.func104 ?_
 refine .wrap 5 .aj rfl rfl ?_
 refine cc (S:=Nat×AV×Hp) (fun t=>[(1,.fn (.func g) [] cap),(5,.via t.2.1),(7,.int .i64 n),(8,.int .i64 t.1)]) (fun t=>t.2.2++(S++σ)) (fun t=>t.1≤n∧Acc 1 t.1 t.2.1 t.2.2 (((List.range t.1).map f).map (AV.af (.int .u64)))) (fun t=>n-t.1) (0,.aj,[]) ⟨⟨bD _,.nil⟩,⟨rfl,rfl,rfl,rfl,trivial⟩,rfl⟩ ?_
 rintro⟨i,v,acc⟩ g ⟨gk,h0⟩
 have hi:i≤n:=gk
 have h:Acc 1 i v acc (((List.range i).map f).map (AV.af (.int .u64))):=h0
 clear gk h0
 refine aq (p:=(i:Int)<(n:Int)) (fun ab=>?_) (fun au=>?_)
 rotate_left
 ·have au:i=n:=by omega
  subst au
  have hlen:((List.range i).map f).length=i:=by rw[cm,pN]
  exact qU [] (s:=(.slice (.int .u64))) h hlen.symm (List.map_eq_flatMap ..) Nat.one_pos (.done ⟨rfl,rfl⟩)
 have ab:i<n:=by omega
 refine .perm (σ2:=S++(acc++σ)) _ (fC acc S σ) (Eu i ab (acc++σ)) ?_
 rintro _ _ ⟨rfl,rfl⟩
 refine⟨_,(fC acc S σ).symm,?_⟩
 intro b1
 refine ic [_] h (.ae 0 b1 0 1 _ rfl (cD rfl)) rfl (by omega) (by decide) (by decide) (fun v' aU h'=>?_)
 refine bj (i+1,v',aU) (by show n-(i+1)<n-i;omega) ⟨ab,?_⟩ ⟨rfl,rfl,rfl,aY (by omega),trivial⟩ (.drop 0 1 (.refl _))
 show Acc 1 (i+1) v' aU (((List.range (i+1)).map f).map (AV.af (.int .u64)))
 exact agt (YR f (AV.af (.int .u64)) i) h'
theorem agx(l:List Int)(x:Int)(σ:Hp)(hl:l.length≤1000000):ACalls Tryz.prog 144 [.af (.int .i64) l,.int .i64 x] σ (aE (.bool (l.any fun z=>decide (x=z))) σ):=by
 refine az Tryz.func144 ?_
 refine cc (S:=Nat) (fun k=>[(1,.int .i64 x),(7,.af (.int .i64) l),(8,.int .i64 l.length),(9,.int .i64 k)]) (fun _=>σ) (fun k=>k≤l.length∧((l.take k).any fun z=>decide (x=z))=false) (fun k=>l.length-k) 0 ⟨⟨bD _,rfl⟩,⟨rfl,rfl,rfl,rfl,trivial⟩,rfl⟩ ?_
 rintro k g ⟨aP,pK⟩
 have hk:k≤l.length:=aP
 have ha:((l.take k).any fun z=>decide (x=z))=false:=pK
 clear aP pK
 refine aq (fun ab=>?_) (fun au=>?_)
 ·have ab:k<l.length:=by have ab:(k:Int)<l.length:=ab;omega
  have hs:=rM ab fun z:Int=>decide (x=z)
  rw[ha,pM]at hs
  refine aI.mk rfl (bL.mk l[k] (by omega) (get_some ab) ?_)
  refine aq (p:=l[k]=x) (fun d1=>?_) (fun d1=>?_)
  ·exact .done ⟨dc (mV.2 ⟨l[k],cj ab,bu d1.symm⟩).symm,rfl⟩
  ·exact bj (k+1) (by show l.length-(k+1)<l.length-k;omega) ⟨ab,hs.trans (bZ fun h=>d1 h.symm)⟩ ⟨rfl,rfl,rfl,aY (by omega),trivial⟩ (.refl _)
 ·have au:k=l.length:=by have au:¬(k:Int)<l.length:=au;omega
  subst au
  rw[gn]at ha
  exact .done ⟨dc ha.symm,rfl⟩
end Go.Proofs.YtnikdflhefijbaaGreat
namespace Go.Proofs.YtnikdflhefijbaaGreat
def bX:List Nat→Nat
 | []=>0
 |b::l=>bX l*256+b
theorem Cc(a b c d:Nat)(hb:b<256)(hd:d<256):(a*256+b) &&& (c*256+d)=(a &&& c)*256+(b &&& d):=by
 have zj:b &&& d<256:=zp EY hb
 refine BE fun i=>?_
 rw[Je,Bt a,Bt c,Bt (a &&& c),show (256:Nat)=2 ^ 8 by decide,Oo a hb,Oo c hd,Oo (a &&& c) zj]
 split
 ·rw[Je]
 ·rw[Je]
def g1(b:Nat):Nat:=(b / 2 &&& 85)+(b &&& 85)
def g2(b:Nat):Nat:=(b / 4 &&& 51)+(b &&& 51)
def g3(b:Nat):Nat:=(b / 16+b) &&& 15
theorem afk:∀h<2,∀b<256,(h*128+b / 2) &&& 85=b / 2 &&& 85:=by decide +kernel
theorem afj:∀h<4,∀b<256,(h*64+b / 4) &&& 51=b / 4 &&& 51:=by decide +kernel
theorem aaC:∀b<256,g1 b≤170:=by decide +kernel
theorem aaB:∀b<256,g2 (g1 b) % 16≤4∧g2 (g1 b) / 16≤4:=by decide +kernel
theorem afi:∀h≤4,∀l≤4,∀k≤4,(k*16+((h*16+l) / 16+(h*16+l))) &&& 15=g3 (h*16+l)∧k*16+((h*16+l) / 16+(h*16+l))<256:=by decide +kernel
def uT(b:Nat):Nat:=g3 (g2 (g1 b))
theorem uo:∀b<256,uT b≤8:=by decide +kernel
theorem Yy:∀b<256,uT b=0→b=0:=by decide +kernel
theorem TP:∀(l:List Nat),(∀b∈l,b<256)→(bX l / 2 &&& bX (l.map fun _=>85))+(bX l &&& bX (l.map fun _=>85))=bX (l.map g1)
 | [],_=>rfl
 |b::l,h=>by
  have hb:=h b (.head _)
  have ih:=TP l (fun x hx=>h x (.tail _ hx))
  show (((bX l*256+b) / 2) &&& (bX (l.map fun _=>85)*256+85))+((bX l*256+b) &&& (bX (l.map fun _=>85)*256+85))=bX (l.map g1)*256+g1 b
  have e:(bX l*256+b) / 2=bX l / 2*256+(bX l % 2*128+b / 2):=by omega
  rw[e,Cc _ _ _ _ (by omega) (by decide),Cc _ _ _ _ hb (by decide),afk _ (mT _ (by decide)) _ hb,← ih]
  show _=_*256+((b / 2 &&& 85)+(b &&& 85))
  generalize bX l / 2 &&& bX (l.map fun _=>85)=A
  generalize bX l &&& bX (l.map fun _=>85)=B
  generalize b / 2 &&& 85=C
  generalize b &&& 85=D
  omega
theorem TO:∀(l:List Nat),(∀b∈l,b<256)→(bX l / 4 &&& bX (l.map fun _=>51))+(bX l &&& bX (l.map fun _=>51))=bX (l.map g2)
 | [],_=>rfl
 |b::l,h=>by
  have hb:=h b (.head _)
  have ih:=TO l (fun x hx=>h x (.tail _ hx))
  show (((bX l*256+b) / 4) &&& (bX (l.map fun _=>51)*256+51))+((bX l*256+b) &&& (bX (l.map fun _=>51)*256+51))=bX (l.map g2)*256+g2 b
  have e:(bX l*256+b) / 4=bX l / 4*256+(bX l % 4*64+b / 4):=by omega
  rw[e,Cc _ _ _ _ (by omega) (by decide),Cc _ _ _ _ hb (by decide),afj _ (mT _ (by decide)) _ hb,← ih]
  show _=_*256+((b / 4 &&& 51)+(b &&& 51))
  generalize bX l / 4 &&& bX (l.map fun _=>51)=A
  generalize bX l &&& bX (l.map fun _=>51)=B
  generalize b / 4 &&& 51=C
  generalize b &&& 51=D
  omega
theorem ZN:∀(l:List Nat),(∀b∈l,b % 16≤4∧b / 16≤4)→bX l % 16≤4
 | [],_=>by decide
 |b::l,h=>by
  have:=(h b (.head _)).1
  show (bX l*256+b) % 16≤4
  omega
theorem TN:∀(l:List Nat),(∀b∈l,b % 16≤4∧b / 16≤4)→((bX l / 16+bX l) &&& bX (l.map fun _=>15))=bX (l.map g3)
 | [],_=>rfl
 |b::l,h=>by
  obtain⟨h1,h2⟩:=h b (.head _)
  have ih:=TN l (fun x hx=>h x (.tail _ hx))
  have hm:=ZN l (fun x hx=>h x (.tail _ hx))
  show (((bX l*256+b) / 16+(bX l*256+b)) &&& (bX (l.map fun _=>15)*256+15))=bX (l.map g3)*256+g3 b
  have sC:b=b / 16*16+b % 16:=by omega
  obtain⟨f1,f2⟩:=afi _ h2 _ h1 _ hm
  rw[← sC]at f1 f2
  have e:(bX l*256+b) / 16+(bX l*256+b)=(bX l / 16+bX l)*256+(bX l % 16*16+(b / 16+b)):=by omega
  rw[e,Cc _ _ _ _ f2 (by decide),f1,ih]
def uG(x:Nat):List Nat:=[x % 256,x / 256 % 256,x / 65536 % 256,x / 16777216 % 256,x / 4294967296 % 256,x / 1099511627776 % 256,x / 281474976710656 % 256,x / 72057594037927936 % 256]
theorem P7{x:Nat}(h:x<18446744073709551616):bX (uG x)=x:=by
 unfold uG bX bX bX bX bX bX bX bX bX
 omega
theorem Kt(x:Nat):∀b∈uG x,b<256:=by
 intro b hb
 simp only[uG,eF,Bx,or_false]at hb
 omega
def tq(x:Nat):Nat:=((uG x).map uT).sum
theorem ac8(x:Nat):tq x≤64:=by
 have h:=Kt x
 unfold tq uG at *
 simp only[oR,List.map_nil,I4,List.sum_nil,eF,Bx,or_false,forall_eq_or_imp,forall_eq]at *
 obtain⟨h0,h1,h2,h3,h4,h5,h6,h7⟩:=h
 have:=uo _ h0
 have:=uo _ h1
 have:=uo _ h2
 have:=uo _ h3
 have:=uo _ h4
 have:=uo _ h5
 have:=uo _ h6
 have:=uo _ h7
 omega
theorem Yx{x:Nat}(hx:x<18446744073709551616)(h:tq x=0):x=0:=by
 have hb:=Kt x
 have hv:=P7 hx
 unfold tq at h
 generalize uG x=l at *
 have hz:∀b∈l,b=0:=by
  intro b hm
  refine Yy b (hb b hm) ?_
  have hle:∀(l:List Nat),b∈l→uT b≤(l.map uT).sum:=by
   intro l
   induction l with
   |nil=>intro h;cases h
   |cons c l ih=>
    intro h
    rw[oR,I4]
    rcases eF.1 h with rfl | h
    ·omega
    ·have:=ih h;omega
  have:=hle l hm
  omega
 have:∀(l:List Nat),(∀b∈l,b=0)→bX l=0:=by
  intro l
  induction l with
  |nil=>intro _;rfl
  |cons b l ih=>
   intro h
   show bX l*256+b=0
   rw[ih (fun x hx=>h x (.tail _ hx)),h b (.head _)]
 rw[← hv,this l hz]
theorem afe{e0 e1 e2 e3 e4 e5 e6 e7 x3 y1 y2 y3:Nat}(h:e0≤8∧e1≤8∧e2≤8∧e3≤8∧e4≤8∧e5≤8∧e6≤8∧e7≤8)(hx:x3=bX [e0,e1,e2,e3,e4,e5,e6,e7])(h1:y1=x3+x3 / 256)(h2:y2=y1+y1 / 65536)(h3:y3=y2+y2 / 4294967296):y3 % 128=e0+e1+e2+e3+e4+e5+e6+e7∧y3<9223372036854775808∧y2<18446744073709551616∧y1<18446744073709551616:=by
 obtain⟨k0,k1,k2,k3,k4,k5,k6,k7⟩:=h
 obtain⟨T1,N3⟩:∃T,T=bX [e1,e2,e3,e4,e5,e6,e7]:=⟨_,rfl⟩
 obtain⟨T2,EH⟩:∃T,T=bX [e2,e3,e4,e5,e6,e7]:=⟨_,rfl⟩
 obtain⟨T3,N2⟩:∃T,T=bX [e3,e4,e5,e6,e7]:=⟨_,rfl⟩
 obtain⟨T4,N1⟩:∃T,T=bX [e4,e5,e6,e7]:=⟨_,rfl⟩
 obtain⟨T5,N0⟩:∃T,T=bX [e5,e6,e7]:=⟨_,rfl⟩
 obtain⟨T6,NY⟩:∃T,T=bX [e6,e7]:=⟨_,rfl⟩
 obtain⟨T7,NX⟩:∃T,T=bX [e7]:=⟨_,rfl⟩
 have hx:x3=T1*256+e0:=by rw[hx,N3];rfl
 have t1:T1=T2*256+e1:=by rw[N3,EH];rfl
 have t2:T2=T3*256+e2:=by rw[EH,N2];rfl
 have t3:T3=T4*256+e3:=by rw[N2,N1];rfl
 have t4:T4=T5*256+e4:=by rw[N1,N0];rfl
 have t5:T5=T6*256+e5:=by rw[N0,NY];rfl
 have t6:T6=T7*256+e6:=by rw[NY,NX];rfl
 have t7:T7=e7:=by rw[NX];exact ef _
 clear N3 EH N2 N1 N0 NY NX
 have d1:x3 / 256=T1:=by clear h1 h2 h3 t1 t2 t3 t4 t5 t6 t7;omega
 have u1:y1=(T2+T3)*65536+(e1*256+e2*256+e0+e1):=by rw[h1,d1];clear h1 h2 h3 d1 t3 t4 t5 t6 t7;omega
 have d2:y1 / 65536=T2+T3:=by clear h1 h2 h3 t1 t2 t3 t4 t5 t6 t7 d1 hx;omega
 have u2:y2=(T4+T5+T6+T7)*4294967296+((e0+e1+e2+e3)+(e1+e2+e3+e4)*256+(e2+e3+e4+e5)*65536+(e3+e4+e5+e6)*16777216):=by rw[h2,d2,u1];clear h1 h2 h3 d1 d2 u1 hx t7;omega
 have d3:y2 / 4294967296=T4+T5+T6+T7:=by clear h1 h2 h3 t1 t2 t3 t4 t5 t6 t7 d1 d2 hx u1;omega
 have u3:y3=(T4+T5+T6+T7)*4294967296+((e0+e1+e2+e3)+(e1+e2+e3+e4)*256+(e2+e3+e4+e5)*65536+(e3+e4+e5+e6)*16777216)+(T4+T5+T6+T7):=by rw[h3,d3,u2]
 have b7:T7≤8:=by omega
 have b6:T6≤2056:=by clear u1 u2 u3 d1 d2 d3 h1 h2 h3 hx;omega
 have b5:T5≤526344:=by clear u1 u2 u3 d1 d2 d3 h1 h2 h3 hx;omega
 have b4:T4≤134744072:=by clear u1 u2 u3 d1 d2 d3 h1 h2 h3 hx;omega
 have b3:T3≤34494482440:=by clear u1 u2 u3 d1 d2 d3 h1 h2 h3 hx;omega
 have b2:T2≤8830587504648:=by clear u1 u2 u3 d1 d2 d3 h1 h2 h3 hx;omega
 refine⟨?_,?_,?_,?_⟩
 ·clear u1 u2 d1 d2 d3 h1 h2 h3 hx b2 b3 b4 b5 b6 b7 t1 t2 t3;omega
 ·clear u1 u2 d1 d2 d3 h1 h2 h3 hx t1 t2 t3 t4 t5 t6 t7;omega
 ·clear u1 u3 d1 d2 d3 h1 h2 h3 hx t1 t2 t3 t4 t5 t6 t7;omega
 ·clear u2 u3 d1 d2 d3 h1 h2 h3 hx t1 t2 t3 t4 t5 t6 t7;omega
set_option maxRecDepth 100000
theorem yd{z:Int}(h:bH z):(z.toNat:Int)=z:=by unfold bH at h;omega
theorem tv{z:Int}(h:bH z):z.toNat<18446744073709551616:=by unfold bH at h;omega
theorem abE{n:Nat}(h:n<18446744073709551616):bH (n:Int):=by unfold bH;omega
theorem qL{a b:Nat}(ha:a<18446744073709551616)(hb:b<18446744073709551616):bits .and .u64 (a:Int) (b:Int)=((a &&& b:Nat):Int):=by
 show IntKind.u64.wrap ((BitVec.ofInt 64 (a:Int) &&& BitVec.ofInt 64 (b:Int)).toNat:Int)=_
 rw[BitVec.toNat_and,BitVec.ofInt_natCast,BitVec.ofInt_natCast,BitVec.toNat_ofNat,BitVec.toNat_ofNat,tU ha,tU hb,IntKind.wrap_u64]
 have:a &&& b≤a:=EY
 omega
theorem sQ{a b:Nat}(ha:a<18446744073709551616)(hb:b<18446744073709551616):bits .or .u64 (a:Int) (b:Int)=((a ||| b:Nat):Int):=by
 show IntKind.u64.wrap ((BitVec.ofInt 64 (a:Int) ||| BitVec.ofInt 64 (b:Int)).toNat:Int)=_
 rw[BitVec.toNat_or,BitVec.ofInt_natCast,BitVec.ofInt_natCast,BitVec.toNat_ofNat,BitVec.toNat_ofNat,tU ha,tU hb,IntKind.wrap_u64]
 have:a ||| b<2 ^ 64:=Ji ha hb
 have lV:(2:Nat) ^ 64=18446744073709551616:=by decide
 omega
theorem Gu(a:Nat)(k:Nat)(j:Int)(hj:min j.toNat IntKind.u64.bits=k):(a:Int).fdiv (2 ^ min j.toNat IntKind.u64.bits)=((a / 2 ^ k:Nat):Int):=by
 rw[hj,Int.fdiv_eq_ediv_of_nonneg _ (Int.pow_nonneg (by decide)),Int.natCast_ediv,Int.natCast_pow];rfl
theorem KZ:∀(l:List Nat),(∀b∈l,b<256)→bX l<256 ^ l.length
 | [],_=>by decide
 |b::l,h=>by
  have:=KZ l (fun x hx=>h x (.tail _ hx))
  have hb:=h b (.head _)
  show bX l*256+b<256 ^ (l.length+1)
  rw[Nat.pow_succ]
  omega
def oA(k m x:Int):Int:=IntKind.u64.wrap (bits .and .u64 (x.fdiv (2 ^ min k.toNat IntKind.u64.bits)) m+bits .and .u64 x m)
def oB(x:Int):Int:=bits .and .u64 (IntKind.u64.wrap (x.fdiv (2 ^ min (4:Int).toNat IntKind.u64.bits)+x)) 1085102592571150095
def oC(k x:Int):Int:=IntKind.u64.wrap (x+x.fdiv (2 ^ min k.toNat IntKind.u64.bits))
def oD(x:Int):Int:=bits .and .i64 (IntKind.i64.wrap x) 127
theorem yi{n:Nat}(h:n<18446744073709551616):IntKind.u64.wrap (n:Int)=n:=by rw[IntKind.wrap_u64];omega
theorem aeg(n:Nat)(h:n<9223372036854775808):oD (n:Int)=((n % 128:Nat):Int):=by
 unfold oD
 rw[show IntKind.i64.wrap (n:Int)=n by rw[IntKind.wrap_i64];omega]
 show IntKind.i64.wrap ((BitVec.ofInt 64 (n:Int) &&& BitVec.ofInt 64 (127:Int)).toNat:Int)=_
 rw[BitVec.toNat_and,BitVec.ofInt_natCast,BitVec.toNat_ofNat,tU (show n<2 ^ 64 from EU h (by decide)),show (BitVec.ofInt 64 (127:Int)).toNat=2 ^ 7-1 by decide,Ov,IntKind.wrap_i64]
 have:(2:Nat) ^ 7=128:=by decide
 omega
theorem aaa{n:Nat}(h:n<18446744073709551616):oD (oC 32 (oC 16 (oC 8 (oB (oA 2 3689348814741910323 (oA 1 6148914691236517205 (n:Int)))))))=(tq n:Int):=by
 have hb:=Kt n
 have hv:=P7 h
 obtain⟨l,hl⟩:∃l,l=uG n:=⟨_,rfl⟩
 have hlen:l.length=8:=by rw[hl];rfl
 rw[← hl]at hb hv
 have MS:(256:Nat) ^ 8=18446744073709551616:=by decide
 have mq:∀b∈l.map g1,b<256:=fun b hm=>by
  obtain⟨c,hc,rfl⟩:=dP.1 hm
  have:=aaC c (hb c hc);omega
 have rD:∀b∈(l.map g1).map g2,b % 16≤4∧b / 16≤4:=fun b hm=>by
  obtain⟨c,hc,rfl⟩:=dP.1 hm
  obtain⟨d,hd,rfl⟩:=dP.1 hc
  exact aaB d (hb d hd)
 have aga:∀b∈(l.map g1).map g2,b<256:=fun b hm=>by have:=rD b hm;omega
 have m1:bX (l.map fun _=>85)=6148914691236517205:=by rw[List.map_const',hlen];rfl
 have m2:bX ((l.map g1).map fun _=>51)=3689348814741910323:=by rw[List.map_const',cm,hlen];rfl
 have m3:bX (((l.map g1).map g2).map fun _=>15)=1085102592571150095:=by rw[List.map_const',cm,cm,hlen];rfl
 have s1:=TP l hb
 have s2:=TO (l.map g1) mq
 have s3:=TN ((l.map g1).map g2) rD
 rw[m1,hv]at s1
 rw[m2]at s2
 rw[m3]at s3
 have l1:=KZ _ mq
 have l2:=KZ _ aga
 rw[cm,hlen,MS]at l1
 rw[cm,cm,hlen,MS]at l2
 have hA:∀(x m y k:Nat) (j:Int),min j.toNat IntKind.u64.bits=k→x<18446744073709551616→m<18446744073709551616→(x / 2 ^ k &&& m)+(x &&& m)=y→y<18446744073709551616→oA j (m:Int) (x:Int)=(y:Int):=by
  intro x m y k j hj hx hm hy vB
  unfold oA
  rw[Gu x k j hj,qL (zp (Nat.div_le_self _ _) hx) hm,qL hx hm,← tT,hy]
  exact yi vB
 have e1:=hA n 6148914691236517205 _ 1 1 rfl h (by decide) s1 l1
 have e2:=hA _ 3689348814741910323 _ 2 2 rfl l1 (by decide) s2 l2
 have rz:bX ((l.map g1).map g2) / 16+bX ((l.map g1).map g2)<18446744073709551616:=by
  have hz:∀(q:List Nat),(∀b∈q,b % 16≤4∧b / 16≤4)→bX q*2<256 ^ q.length∨q=[]:=by
   intro q
   induction q with
   |nil=>intro _;exact .inr rfl
   |cons b q ih=>
    intro h
    have hb:=h b (.head _)
    refine .inl ?_
    show (bX q*256+b)*2<256 ^ (q.length+1)
    rw[Nat.pow_succ]
    rcases ih (fun x hx=>h x (.tail _ hx)) with h1 | rfl
    ·omega
    ·show (0*256+b)*2<256 ^ 0*256
     omega
  rcases hz _ rD with h1 | h1
  ·rw[cm,cm,hlen,MS]at h1
   omega
  ·have:=congrArg List.length h1
   rw[cm,cm,hlen]at this
   cases this
 have e3:oB (bX ((l.map g1).map g2):Int)=(bX (((l.map g1).map g2).map g3):Int):=by
  unfold oB
  rw[Gu _ 4 4 rfl,← tT,show (2:Nat) ^ 4=16 by decide,yi rz]
  have:=qL (b:=1085102592571150095) rz (by decide)
  rw[s3]at this
  exact this
 have hC:∀(x k:Nat) (j:Int),min j.toNat IntKind.u64.bits=k→x+x / 2 ^ k<18446744073709551616→oC j (x:Int)=((x+x / 2 ^ k:Nat):Int):=by
  intro x k j hj hx
  unfold oC
  rw[Gu x k j hj,← tT]
  exact yi hx
 have afR:((l.map g1).map g2).map g3=l.map uT:=by simp[uT,Function.comp_def]
 rw[afR]at e3
 obtain⟨e0,f1,f2,f3,f4,f5,f6,f7,hq,afK,hle⟩:∃e0 e1 e2 e3 e4 e5 e6 e7,l.map uT=[e0,e1,e2,e3,e4,e5,e6,e7]∧tq n=e0+e1+e2+e3+e4+e5+e6+e7∧(e0≤8∧e1≤8∧e2≤8∧e3≤8∧e4≤8∧e5≤8∧e6≤8∧e7≤8):=by
  refine⟨_,_,_,_,_,_,_,_,by rw[hl];rfl,?_,?_⟩
  ·unfold tq uG
   simp only[oR,List.map_nil,I4,List.sum_nil]
   omega
  ·refine⟨?_,?_,?_,?_,?_,?_,?_,?_⟩ <;> exact uo _ (mT _ (by decide))
 obtain⟨X,hX⟩:∃X,X=bX (l.map uT):=⟨_,rfl⟩
 rw[← hX]at e3
 rw[hq]at hX
 obtain⟨g1',g2',g3',g4'⟩:=afe hle hX rfl rfl rfl
 have e4:=hC X 8 8 rfl g4'
 have e5:=hC (X+X / 256) 16 16 rfl g3'
 have e6:=hC (X+X / 256+(X+X / 256) / 65536) 32 32 rfl (EU g2' (by decide))
 have Nz:oA 1 6148914691236517205 (n:Int)=_:=e1
 rw[Nz]
 have tK:oA 2 3689348814741910323 (bX (l.map g1):Int)=_:=e2
 rw[tK,e3,e4]
 have e5:oC 16 ((X+X / 256:Nat):Int)=_:=e5
 have e6:oC 32 ((X+X / 256+(X+X / 256) / 65536:Nat):Int)=_:=e6
 rw[show ((X+X / 2 ^ 8:Nat):Int)=((X+X / 256:Nat):Int) from rfl,e5,show ((X+X / 256+(X+X / 256) / 2 ^ 16:Nat):Int)=((X+X / 256+(X+X / 256) / 65536:Nat):Int) from rfl,e6]
 rw[aeg _ g2',afK,← g1']
theorem afr{x:Int}(h:bH x)(σ:Hp):ACalls Tryz.prog 306 [.int .u64 x] σ (aE (.int .i64 (tq x.toNat)) σ):=by
 refine az Tryz.func306 ?_
 have hv:=aaa (tv h)
 rw[yd h]at hv
 refine aI.mk (by decide) ?_
 refine ei ?_
 refine ei ?_
 refine ei ?_
 refine ei ?_
 refine ei ?_
 exact .done ⟨aV hv,rfl⟩
def hasB(a:List Int)(n:Nat):Bool:=(wd a (n / 64)).toNat.testBit (n % 64)
def dx(f:Int→Int→Int)(a b:List Int):List Int:=(List.range (max a.length b.length)).map fun i=>f (wd a i) (wd b i)
theorem pQ(f:Int→Int→Int)(a b:List Int):(dx f a b).length=max a.length b.length:=by simp[dx]
theorem yb(f:Int→Int→Int)(a b:List Int){i:Nat}(h:i<max a.length b.length):wd (dx f a b) i=f (wd a i) (wd b i):=by
 unfold dx wd
 rw[fo,tX h]
 rfl
theorem yc{a:List Int}{i:Nat}(h:a.length≤i):wd a i=0:=by unfold wd;rw[tZ h];rfl
theorem kS(b:List Int){i:Nat}(h:i<b.length):wd b i=b[i]:=by unfold wd;rw[bF h];rfl
theorem yj{a b:List Int}(hl:a.length=b.length)(h:∀i,i<a.length→wd a i=wd b i):a=b:=by
 refine BL hl fun i h1 h2=>?_
 have:=h i h1
 rw[kS a h1,kS b h2]at this
 exact this
theorem CV{n:Nat}{f:Nat→Int}(h:∀i,i<n→bH (f i)):bc ((List.range n).map f):=fun z hz=>by
 obtain⟨i,hi,rfl⟩:=dP.1 hz
 exact h i (gm.1 hi)
abbrev im(x y:Int):Int:=bits .or .u64 x y
abbrev fB(x y:Int):Int:=bits .andNot .u64 x y
theorem TZ(x y:Int):bH (im x y):=Cy _
theorem Hk(x y:Int):bH (fB x y):=Cy _
theorem toNat_ofInt{z:Int}(h:bH z):(BitVec.ofInt 64 z).toNat=z.toNat:=by
 have:=tv h
 rw[BitVec.toNat_ofInt]
 unfold bH at h
 omega
theorem Le{x y:Int}(hx:bH x)(hy:bH y)(k:Nat):(im x y).toNat.testBit k=(x.toNat.testBit k||y.toNat.testBit k):=by
 have e:im x y=((BitVec.ofInt 64 x ||| BitVec.ofInt 64 y).toNat:Int):=by
  show IntKind.u64.wrap _=_
  exact yi (BitVec.isLt _)
 rw[e,bM,BitVec.toNat_or,I9,toNat_ofInt hx,toNat_ofInt hy]
theorem GY{x y:Int}(hx:bH x)(hy:bH y){k:Nat}(hk:k<64):(fB x y).toNat.testBit k=(x.toNat.testBit k&&!y.toNat.testBit k):=by
 have e:fB x y=((BitVec.ofInt 64 x &&& ~~~BitVec.ofInt 64 y).toNat:Int):=by
  show IntKind.u64.wrap _=_
  exact yi (BitVec.isLt _)
 rw[e,bM,BitVec.testBit_toNat,BitVec.getLsbD_and,BitVec.getLsbD_not,bu hk,zn,← BitVec.testBit_toNat,← BitVec.testBit_toNat,toNat_ofInt hx,toNat_ofInt hy]
def fQ(T:List Int)(n:Nat):List Int:=(List.range T.length).map fun i=>(((wd T i).toNat % 2 ^ min 64 (n-64*i):Nat):Int)
theorem pR(T:List Int)(n:Nat):(fQ T n).length=T.length:=by simp[fQ]
theorem yn(T:List Int)(n:Nat){i:Nat}(h:i<T.length):wd (fQ T n) i=(((wd T i).toNat % 2 ^ min 64 (n-64*i):Nat):Int):=by
 unfold fQ
 unfold wd
 rw[fo,tX h]
 rfl
theorem Gh(T:List Int):fQ T 0=List.replicate T.length 0:=by
 refine List.ext_getElem (by simp[fQ]) fun i h1 h2=>?_
 rw[List.getElem_replicate,← kS _ h1,yn T 0 (by simpa [fQ]using h1),Nat.zero_sub,Nat.min_zero,Nat.pow_zero,Nat.mod_one]
 rfl
theorem SQ{T:List Int}(hT:bc T):fQ T (64*T.length)=T:=by
 refine yj (pR _ _) fun i hi=>?_
 rw[pR]at hi
 rw[yn T _ hi,show min 64 (64*T.length-64*i)=64 by omega]
 have h:=kW hT i
 rw[tU (tv h),yd h]
theorem mod_succ(x k:Nat):x % 2 ^ (k+1)=if x.testBit k then x % 2 ^ k ||| 2 ^ k else x % 2 ^ k:=by
 refine BE fun i=>?_
 cases hb:x.testBit k with
 |false=>
  rw[ag (by decide),Jv,Jv]
  by_cases h1:i<k
  ·rw[bu (show i<k+1 by omega),bu h1]
  ·by_cases h2:i=k
   ·subst h2;rw[hb];simp
   ·rw[bZ (show ¬i<k+1 by omega),bZ h1]
 |true=>
  rw[ah rfl,I9,Jv,Jv,Og]
  by_cases h1:i<k
  ·rw[decide_eq_true (show i<k+1 by omega),decide_eq_true h1,decide_eq_false (show ¬k=i by omega)];simp
  ·by_cases h2:i=k
   ·subst h2;rw[hb];simp
   ·rw[bZ (show ¬i<k+1 by omega),bZ h1,bZ (show ¬k=i by omega)];rfl
theorem KD{T:List Int}{n:Nat}(h:n<64*T.length):fQ T (n+1)=if hasB T n then (fQ T n).set (n / 64) (im (wd (fQ T n) (n / 64)) ((2 ^ (n % 64):Nat):Int)) else fQ T n:=by
 have hi:n / 64<T.length:=by omega
 have hk:n % 64<64:=mT _ (by decide)
 have ab:∀m,(wd T (n / 64)).toNat % 2 ^ min 64 m<18446744073709551616:=fun m=>by
  have h1:(wd T (n / 64)).toNat % 2 ^ min 64 m<2 ^ min 64 m:=mT _ (Bw _)
  have h2:2 ^ min 64 m≤2 ^ 64:=tY (by decide) (Nat.min_le_left _ _)
  have h3:(2:Nat) ^ 64=18446744073709551616:=by decide
  omega
 have hp:2 ^ (n % 64)<18446744073709551616:=by
  have h2:2 ^ (n % 64)<2 ^ 64:=Nat.pow_lt_pow_right (by decide) hk
  exact h2
 have e1:min 64 (n-64*(n / 64))=n % 64:=by omega
 have e2:min 64 (n+1-64*(n / 64))=n % 64+1:=by omega
 have hm:=mod_succ (wd T (n / 64)).toNat (n % 64)
 have Ua:∀i,i≠n / 64→min 64 (n+1-64*i)=min 64 (n-64*i):=fun i aS=>by omega
 unfold hasB
 refine yj ?_ fun i IU=>?_
 ·rw[pR]
  split
  ·rw[cN,pR]
  ·rw[pR]
 ·rw[pR]at IU
  rw[yn T _ IU]
  cases hb:(wd T (n / 64)).toNat.testBit (n % 64) with
  |true=>
   rw[hb,ah rfl]at hm
   rw[ah rfl]
   by_cases hc:i=n / 64
   ·subst hc
    have hs:wd ((fQ T n).set (n / 64) (im (wd (fQ T n) (n / 64)) ((2 ^ (n % 64):Nat):Int))) (n / 64)=im (wd (fQ T n) (n / 64)) ((2 ^ (n % 64):Nat):Int):=by
     unfold wd
     rw[List.getElem?_set_self (by rw[pR];exact hi)];rfl
    have afY:=ab (n-64*(n / 64))
    rw[hs,yn T n hi,show im _ _=_ from sQ afY hp,e2,e1,hm]
   ·have hs:wd ((fQ T n).set (n / 64) (im (wd (fQ T n) (n / 64)) ((2 ^ (n % 64):Nat):Int))) i=wd (fQ T n) i:=by
     unfold wd
     rw[List.getElem?_set_ne (fun h=>hc h.symm)]
    rw[hs,yn T n IU,Ua i hc]
  |false=>
   rw[hb,ag (by decide)]at hm
   rw[ag (by decide),yn T n IU]
   by_cases hc:i=n / 64
   ·subst hc
    rw[e2,e1,hm]
   ·rw[Ua i hc]
def ej(w:Int):Nat:=(min (max w 0) 1024).toNat
def dV(w:Int):Nat:=(ej w+63) / 64
theorem GV(w:Int):ej w≤1024:=by unfold ej;omega
theorem zV(w:Int):dV w≤16:=by have:=GV w;unfold dV;omega
theorem Sg(n:Int):(if (1024:Int)<(if n<0 then 0 else n) then (1024:Int) else (if n<0 then 0 else n))=((ej n:Nat):Int):=by
 unfold ej
 by_cases h:n<0
 ·simp only[ah h];omega
 ·simp only[ag h];split <;> omega
def eY(w:Int):List Int:=(List.range (dV w)).map fun i=>((2 ^ min 64 (ej w-64*i)-1:Nat):Int)
theorem mZ(w:Int):(eY w).length=dV w:=by simp[eY]
theorem Ct(w:Int){i:Nat}(h:i<dV w):wd (eY w) i=((2 ^ min 64 (ej w-64*i)-1:Nat):Int):=by
 unfold eY wd
 rw[fo,tX h]
 rfl
theorem aeS(m:Nat):2 ^ min 64 m≤18446744073709551616:=tY (by decide) (Nat.min_le_left _ _)
theorem Sa(w:Int):bc (eY w):=CV fun i _=>abE (by
 have:=aeS (ej w-64*i)
 have:=Bw (min 64 (ej w-64*i))
 omega)
def gw(a:List Int)(w:Int):Bool:=decide (a.length=dV w)&&(List.range a.length).all fun i=>decide ((wd a i).toNat<2 ^ min 64 (ej w-64*i))
theorem Y3{a:List Int}{w:Int}(lV:bc a)(hl:a.length=dV w):gw a w=true↔∀n,ej w≤n→n<64*a.length→hasB a n=false:=by
 unfold gw hasB
 rw[bu hl,zn,fy]
 constructor
 ·intro h n h1 h2
  have hi:n / 64<a.length:=by omega
  have:=h (n / 64) (gm.2 hi)
  simp only[decide_eq_true_eq]at this
  refine vS (rH this (tY (by decide) ?_))
  omega
 ·intro h i hi
  have hi:=gm.1 hi
  rw[decide_eq_true_eq]
  have VD:=tv (kW lV i)
  rcases vP (ej w-64*i) 64 with hc | hc
  ·rw[Nat.min_eq_right (by omega)]
   refine Nat.lt_pow_two_of_testBit _ fun k hk=>?_
   rcases vP k 64 with dX | dX
   ·have:=h (64*i+k) (by omega) (by omega)
    rw[show (64*i+k) / 64=i by omega,show (64*i+k) % 64=k by omega]at this
    exact this
   ·refine vS (rH VD ?_)
    exact tY (by decide:0<2) dX
  ·rw[Ol hc]
   exact VD
theorem Y2{a:List Int}{w:Int}(lV:bc a)(hl:a.length=dV w):gw a w=true↔∀i,i<a.length→fB (wd a i) (wd (eY w) i)=0:=by
 unfold gw
 rw[bu hl,zn,fy]
 have hf:∀i,i<a.length→((wd a i).toNat<2 ^ min 64 (ej w-64*i)↔fB (wd a i) (wd (eY w) i)=0):=by
  intro i hi
  have ha:=kW lV i
  have hb:=kW (Sa w) i
  have hn:(wd (eY w) i).toNat=2 ^ min 64 (ej w-64*i)-1:=by rw[Ct w (by omega),bM]
  constructor
  ·intro h
   have hz:(fB (wd a i) (wd (eY w) i)).toNat=0:=by
    refine BE fun k=>?_
    rw[Nat.zero_testBit]
    rcases vP k 64 with hk | hk
    ·rw[GY ha hb hk,hn,Jx]
     by_cases dX:k<min 64 (ej w-64*i)
     ·rw[decide_eq_true dX];simp
     ·rw[vS (rH h (tY (by decide) (by omega)))];rfl
    ·exact vS (rH (tv (Hk _ _)) (tY (by decide:0<2) hk))
   have:=yd (Hk (wd a i) (wd (eY w) i))
   omega
  ·intro h
   refine Nat.lt_pow_two_of_testBit _ fun k hk=>?_
   rcases vP k 64 with dX | dX
   ·have hz:=GY ha hb dX
    rw[h,hn,Jx,bZ (by omega)]at hz
    have h0:(0:Int).toNat.testBit k=false:=Nat.zero_testBit k
    rw[h0]at hz
    simpa using hz.symm
   ·exact vS (rH (tv ha) (tY (by decide:0<2) dX))
 constructor
 ·intro h i hi
  exact (hf i hi).1 (by simpa using h i (List.mem_range.2 hi))
 ·intro h i hi
  have hi:=gm.1 hi
  rw[decide_eq_true_eq]
  exact (hf i hi).2 (h i hi)
theorem Tw(a:List Int)(i:Nat)(σ:Hp):ACalls Tryz.prog 334 [.af (.int .u64) a,.int .i64 i] σ (aE (.int .u64 (wd a i)) σ):=by
 refine az Tryz.func334 ?_
 refine aq (fun c=>?_) (fun c=>?_)
 ·have c:(a.length:Int)≤(i:Int):=c
  exact .done ⟨aV (yc (by omega)).symm,rfl⟩
 ·have c:i<a.length:=by have c:¬(a.length:Int)≤(i:Int):=c;omega
  refine aI.mk rfl (bL.mk a[i] (by omega) (get_some c) ?_)
  exact .done ⟨aV (kS a c).symm,rfl⟩
theorem UA(n:Int)(σ:Hp):ACalls Tryz.prog 210 [.int .i64 n] σ (aE (.int .i64 (ej n)) σ):=by
 refine az Tryz.func210 ?_
 exact .done ⟨aV (Sg n),rfl⟩
theorem Z1(n:Int):(IntKind.i64.wrap (IntKind.i64.wrap ((ej n:Nat)+64)-1)).tdiv 64=((dV n:Nat):Int):=by
 have:=GV n
 rw[IntKind.wrap_i64,IntKind.wrap_i64]
 unfold dV
 rw[BJ (by omega)]
 omega
theorem Qh(n:Int):IntKind.i64.wrap ((dV n:Nat):Int)=((dV n:Nat):Int):=by
 have:=zV n
 rw[IntKind.wrap_i64];omega
theorem GZ(n:Int)(σ:Hp):ACalls Tryz.prog 153 [.int .i64 n] σ (aE (.int .i64 (dV n)) σ):=by
 refine az Tryz.func153 ?_
 refine ay [] (UA n _) ?_
 refine aI.mk (by decide) ?_
 exact .done ⟨aV (by rw[Z1,Qh]),rfl⟩
theorem UC(g:FuncId)(f:Int→Int→Int)(hg:∀(x y:Int) (σ:Hp),ACalls Tryz.prog g [.int .u64 x,.int .u64 y] σ (aE (.int .u64 (f x y)) σ))(a b:List Int)(σ:Hp)(ha:a.length≤100000)(hb:b.length≤100000):ACalls Tryz.prog 307 [.af (.int .u64) a,.af (.int .u64) b,.fn (.func g) [] []] σ (aE (.af (.int .u64) (dx f a b)) σ):=by
 refine az Tryz.func307 ?_
 obtain⟨n,hn⟩:∃n,n=max a.length b.length:=⟨_,rfl⟩
 have lM:(if (a.length:Int)<b.length then (b.length:Int) else a.length)=(n:Int):=by split <;> omega
 have oQ:(dx f a b).length=n:=by rw[pQ,hn]
 refine .wrap 7 _ rfl rfl ?_
 refine cc (S:=Nat×AV×Hp) (fun s=>[(0,.af (.int .u64) a),(1,.af (.int .u64) b),(2,.fn (.func g) [] []),(7,.via s.2.1),(13,.int .i64 n),(14,.int .i64 s.1)]) (fun s=>s.2.2++σ) (fun s=>s.1≤n∧Acc 1 s.1 s.2.1 s.2.2 (aO ((dx f a b).take s.1))) (fun s=>n-s.1) (0,.aj,[]) ⟨⟨bD _,.nil⟩,⟨rfl,rfl,rfl,rfl,aV lM,rfl,trivial⟩,rfl⟩ ?_
 rintro⟨k,v,acc⟩ s ⟨aP,gT⟩
 have hk:k≤n:=aP
 have b9:Acc 1 k v acc (aO ((dx f a b).take k)):=gT
 clear aP gT
 refine aq (fun ab=>?_) (fun au=>?_)
 ·have ab:k<n:=by have ab:(k:Int)<n:=ab;omega
  have he:(dx f a b)[k]'(by omega)=f (wd a k) (wd b k):=by rw[← kS,yb f a b (by omega)]
  refine ay [] (Tw a k _) ?_
  refine ay [] (Tw b k _) ?_
  refine ay [] (hg _ _ _) ?_
  intro aG
  refine ic [_] b9 (.ae 0 aG 0 1 _ rfl (cD rfl)) rfl (by omega) (by decide) (by decide) (fun v' aU h'=>?_)
  refine bj (k+1,v',aU) (by show n-(k+1)<n-k;omega) ⟨ab,?_⟩ ⟨rfl,rfl,rfl,rfl,rfl,aY (by omega),trivial⟩ (.drop 0 1 (aJ rfl))
  show Acc 1 (k+1) v' aU (aO ((dx f a b).take (k+1)))
  rw[fL (by omega),he,aO,cO]
  exact h'
 ·have au:k=n:=by have au:¬(k:Int)<n:=au;omega
  subst au
  rw[eG (by omega)]at b9
  exact qU (s:=.int .u64) (l:=dx f a b) [] b9 oQ.symm (by rw[kO]) (by decide) (.done ⟨rfl,rfl⟩)
theorem ad4(x y:Int)(σ:Hp):ACalls Tryz.prog 328 [.int .u64 x,.int .u64 y] σ (aE (.int .u64 (im x y)) σ):=by
 refine az Tryz.func328 ?_
 exact .done ⟨rfl,rfl⟩
theorem adk(x y:Int)(σ:Hp):ACalls Tryz.prog 308 [.int .u64 x,.int .u64 y] σ (aE (.int .u64 (fB x y)) σ):=by
 refine az Tryz.func308 ?_
 exact .done ⟨rfl,rfl⟩
theorem aem(a b:List Int)(σ:Hp)(ha:a.length≤100000)(hb:b.length≤100000):ACalls Tryz.prog 300 [.af (.int .u64) a,.af (.int .u64) b] σ (aE (.af (.int .u64) (dx im a b)) σ):=by
 refine az Tryz.func300 ?_
 refine ay [] (UC _ _ ad4 a b _ ha hb) ?_
 exact .done ⟨rfl,rfl⟩
theorem Uv(a b:List Int)(σ:Hp)(ha:a.length≤100000)(hb:b.length≤100000):ACalls Tryz.prog 284 [.af (.int .u64) a,.af (.int .u64) b] σ (aE (.af (.int .u64) (dx fB a b)) σ):=by
 refine az Tryz.func284 ?_
 refine ay [] (UC _ _ adk a b _ ha hb) ?_
 exact .done ⟨rfl,rfl⟩
theorem Mk(n:Nat)(h:n≤100000000):IntKind.i64.wrap ((n:Int).tdiv 64)=((n / 64:Nat):Int):=by
 rw[BJ (by omega),IntKind.wrap_i64];omega
theorem L5(n:Nat):(n:Int).tmod 64=((n % 64:Nat):Int):=by
 rw[sK (by omega)];omega
theorem UJ(k:Nat)(h:k<64):IntKind.u64.wrap (1*2 ^ min ((k:Nat):Int).toNat IntKind.u64.bits)=((2 ^ k:Nat):Int):=by
 have e:min ((k:Nat):Int).toNat IntKind.u64.bits=k:=by show min k 64=k;omega
 rw[e,Int.one_mul,show ((2:Int) ^ k)=((2 ^ k:Nat):Int) by rw[Int.natCast_pow];rfl]
 exact yi (rH (Nat.pow_lt_pow_right (by decide) h) (a8 _))
theorem Av{l:List Int}{i:Nat}(h:i<l.length)(x:Int){z:Int}(hz:z=i):kQ ⟨.int .u64,1,8,[.int .u64 0]⟩ (aO l) (0+z.toNat*1) (.int .u64 x)=some (aO (l.set i x)):=by
 subst hz
 have e:0+((i:Int)).toNat*1=i:=by omega
 rw[e]
 have h2:Nat.ble (i+1) (aO l).length=true:=Nat.ble_eq_true_of_le (by simp[aO];omega)
 show (match Nat.beq 1 1,Nat.ble (i+1) (aO l).length with | true,true=>some (ga (aO l) i [.int .u64 x]) | _,_=>none)=_
 rw[h2]
 show some ((aO l).set i (.int .u64 x))=_
 simp[aO,List.map_set]
theorem HE{l:List Int}{i:Nat}(h:i<l.length){z:Int}(hz:z=i):ey ⟨.int .u64,1,8,[.int .u64 0]⟩ (aO l) (0+z.toNat*1)=some (.int .u64 (wd l i)):=by
 subst hz
 have e:0+((i:Int)).toNat*1=i:=by omega
 rw[e]
 show (aO l)[i]?=_
 unfold aO wd
 rw[fo,bF h];rfl
theorem QV(w:Int){n:Nat}(h:n<ej w):fQ (eY w) (n+1)=(fQ (eY w) n).set (n / 64) (im (wd (fQ (eY w) n) (n / 64)) ((2 ^ (n % 64):Nat):Int)):=by
 have hs:(eY w).length=dV w:=mZ w
 have hl:n<64*(eY w).length:=by rw[hs];unfold dV;omega
 have hb:hasB (eY w) n=true:=by
  unfold hasB
  rw[Ct w (by unfold dV;omega),bM,Jx]
  exact bu (by omega)
 rw[KD hl,ah hb]
theorem R9(w:Int):fQ (eY w) (ej w)=eY w:=by
 refine yj (pR _ _) fun i hi=>?_
 rw[pR]at hi
 rw[yn _ _ hi]
 rw[mZ]at hi
 rw[Ct w hi,bM,tU]
 have:=Bw (min 64 (ej w-64*i))
 omega
theorem Vb(w:Int)(σ:Hp):ACalls Tryz.prog 203 [.int .i64 w] σ (aE (.af (.int .u64) (eY w)) σ):=by
 refine az Tryz.func203 ?_
 have eD:=zV w
 have NL:=GV w
 refine ay [] (GZ w _) ?_
 refine aZ ?_
 intro q
 refine ay [] (UA w _) ?_
 refine cc (S:=Nat) (fun s=>[(3,.ae q 0 (dV w) 1),(9,.int .i64 (ej w)),(10,.int .i64 s)]) (fun s=>(q,aO (fQ (eY w) s))::σ) (fun s=>s≤ej w) (fun s=>ej w-s) 0 ⟨bD _,⟨rfl,rfl,rfl,trivial⟩,?_⟩ ?_
 ·show (q,cM [.int .u64 0] (((dV w:Nat):Int)).toNat)::σ=(q,aO (fQ (eY w) 0))::σ
  rw[Gh,mZ,bM,wL]
 intro n g fY
 have hn:n≤ej w:=fY
 clear fY
 refine aq (fun ab=>?_) (fun au=>?_)
 ·have ab:n<ej w:=by have ab:(n:Int)<ej w:=ab;omega
  have hi:n / 64<(fQ (eY w) n).length:=by rw[pR,mZ];unfold dV;omega
  have pH:n / 64<dV w:=by unfold dV;omega
  have hd:=Mk n (by omega)
  have hm:=L5 n
  refine .sched [] (upto [] 11 0) (by kernel_rfl) ?_
  refine ei ?_
  refine aM ?_
  refine aT 0 rfl (HE hi hd) ?_
  have Ff:=UJ (n % 64) (by omega)
  rw[← hm]at Ff
  refine ei ?_
  refine ei ?_
  refine aM ?_
  refine da 0 rfl (Av hi _ hd) ?_
  refine bj (n+1) (by show ej w-(n+1)<ej w-n;omega) ab ⟨rfl,rfl,aY (by omega),trivial⟩ (aJ ?_)
  rw[QV w ab,← Ff]
  rfl
 ·have au:n=ej w:=by have au:¬(n:Int)<ej w:=au;omega
  subst au
  rw[R9]
  exact .cJ 0 q 0 (dV w) 1 _ (.int .u64) (eY w) rfl (by rw[List.drop_zero,← kO];exact List.take_of_length_le (by simp[aO,mZ])) ⟨mZ w,rfl,by decide⟩ .here (.done ⟨rfl,rfl⟩)
def oE(a:List Int):Nat:=(a.map fun z=>tq z.toNat).sum
theorem acQ(a:List Int):oE a≤64*a.length:=by
 unfold oE
 induction a with
 |nil=>simp
 |cons x a ih=>have:=ac8 x.toNat;simp only[oR,I4,iy];omega
theorem Zb(a:List Int){k:Nat}(h:k<a.length):oE (a.take (k+1))=oE (a.take k)+tq (a[k]).toNat:=by
 unfold oE
 rw[List.take_succ_eq_append_getElem h,List.map_append,List.sum_append];simp
theorem Za{a:List Int}(ha:bc a):oE a=0↔∀i,i<a.length→wd a i=0:=by
 unfold oE
 rw[List.sum_eq_zero_iff_forall_eq_nat]
 constructor
 ·intro h i hi
  have h1:=h _ (dP.2 ⟨a[i],cj hi,rfl⟩)
  have:=Yx (tv (ha _ (cj hi))) h1
  have hw:=yd (ha _ (cj hi))
  rw[kS a hi,← hw,this];rfl
 ·intro h x hx
  obtain⟨z,hz,rfl⟩:=dP.1 hx
  obtain⟨i,hi,rfl⟩:=xI.1 hz
  have:=h i hi
  rw[kS a hi]at this
  rw[this];rfl
theorem afl{a b:Nat}(h:a+b<1000000000):IntKind.i64.wrap ((a:Int)+(b:Int))=((a+b:Nat):Int):=by rw[IntKind.wrap_i64];omega
theorem aeD(a:List Int)(σ:Hp)(hl:a.length≤100000)(ha:bc a):ACalls Tryz.prog 283 [.af (.int .u64) a] σ (aE (.int .i64 (oE a)) σ):=by
 refine az Tryz.func283 ?_
 refine cc (S:=Nat) (fun s=>[(3,.int .i64 (oE (a.take s))),(6,.af (.int .u64) a),(7,.int .i64 a.length),(8,.int .i64 s)]) (fun _=>σ) (fun s=>s≤a.length) (fun s=>a.length-s) 0 ⟨bD _,⟨rfl,rfl,rfl,rfl,trivial⟩,rfl⟩ ?_
 intro k g aP
 have hk:k≤a.length:=aP
 clear aP
 refine aq (fun ab=>?_) (fun au=>?_)
 ·have ab:k<a.length:=by have ab:(k:Int)<a.length:=ab;omega
  refine aI.mk rfl (bL.mk a[k] (by omega) (get_some ab) ?_)
  refine ay [] (afr (ha _ (cj ab)) _) ?_
  have h1:=acQ (a.take (k+1))
  have h2:=Zb a ab
  rw[zq]at h1
  refine bj (k+1) (by show a.length-(k+1)<a.length-k;omega) ab ⟨aV (by rw[h2];exact afl (by omega)),rfl,rfl,aY (by omega),trivial⟩ (.refl _)
 ·have au:k=a.length:=by have au:¬(k:Int)<a.length:=au;omega
  subst au
  rw[gn]
  exact .done ⟨rfl,rfl⟩
theorem zY(a b:List Int):bc (dx fB a b):=CV fun _ _=>Hk _ _
theorem acZ(a b:List Int)(σ:Hp)(ha:a.length≤10000)(hb:b.length≤10000):ACalls Tryz.prog 249 [.af (.int .u64) a,.af (.int .u64) b] σ (aE (.bool (decide (oE (dx fB a b)=0))) σ):=by
 refine az Tryz.func249 ?_
 refine ay [] (Uv a b _ (by omega) (by omega)) ?_
 refine ay [] (aeD _ _ (by rw[pQ];omega) (zY a b)) ?_
 refine aq (fun c=>?_) (fun c=>?_)
 ·have c:oE (dx fB a b)=0:=by have c:((oE (dx fB a b):Nat):Int)=0:=c;omega
  exact .done ⟨dc (bu c).symm,rfl⟩
 ·have c:oE (dx fB a b)≠0:=by have c:¬((oE (dx fB a b):Nat):Int)=0:=c;omega
  exact .done ⟨dc (bZ c).symm,rfl⟩
theorem Wl{a:List Int}{w:Int}(lV:bc a)(hl:a.length=dV w):decide (oE (dx fB a (eY w))=0)=gw a w:=by
 rw[Bool.eq_iff_iff,decide_eq_true_eq,Za (zY _ _),Y2 lV hl,pQ,mZ,hl,Nat.max_self]
 refine⟨fun h i hi=>?_,fun h i hi=>?_⟩
 ·rw[← yb fB a (eY w) (by rw[hl];omega)];exact h i hi
 ·rw[yb fB a (eY w) (by rw[hl];omega)];exact h i hi
theorem CT(a:List Int)(w:Int)(σ:Hp)(lV:bc a)(ha:a.length≤10000):ACalls Tryz.prog 199 [.af (.int .u64) a,.int .i64 w] σ (aE (.bool (gw a w)) σ):=by
 refine az Tryz.func199 ?_
 refine ay [] (GZ w _) ?_
 have eD:=zV w
 refine aq (fun c=>?_) (fun c=>?_)
 ·have c:a.length=dV w:=by have c:(a.length:Int)=dV w:=c;omega
  refine ay [] (Vb w _) ?_
  refine ay [] (acZ a _ _ ha (by rw[mZ];omega)) ?_
  exact .done ⟨dc (Wl lV c),rfl⟩
 ·have c:a.length≠dV w:=by have c:¬(a.length:Int)=dV w:=c;omega
  have hf:gw a w=false:=by unfold gw;rw[bZ c];rfl
  rw[hf]
  exact .done ⟨rfl,rfl⟩
theorem Tx(n:Int)(σ:Hp):ACalls Tryz.prog 165 [.int .i64 n] σ (aE (.int .i64 (ej n)) σ):=by
 refine az Tryz.func165 ?_
 exact .done ⟨aV (Sg n),rfl⟩
theorem Yh(n:Int):(IntKind.i64.wrap ((ej n:Nat)+63)).tdiv 64=((dV n:Nat):Int):=by
 have:=GV n
 rw[IntKind.wrap_i64]
 unfold dV
 rw[BJ (by omega)]
 omega
theorem Ut(n:Int)(σ:Hp):ACalls Tryz.prog 115 [.int .i64 n] σ (aE (.int .i64 (dV n)) σ):=by
 refine az Tryz.func115 ?_
 refine ay [] (Tx n _) ?_
 refine aI.mk (by decide) ?_
 exact .done ⟨aV (by rw[Yh,Qh]),rfl⟩
theorem acD{x:Int}(ha:bH x){k:Nat}(h:k<64){z:Int}(hz:z=k):(bits .and .u64 (x.fdiv (2 ^ min z.toNat IntKind.u64.bits)) 1=1)↔x.toNat.testBit k=true:=by
 subst hz
 have e:min ((k:Int)).toNat IntKind.u64.bits=k:=by show min k 64=k;omega
 have hw:=yd ha
 rw[← hw,Gu _ _ _ e]
 have ab:=tv ha
 rw[show (1:Int)=((1:Nat):Int) from rfl,qL (zp (Nat.div_le_self _ _) ab) (by decide)]
 rw[bM,Nat.and_one_is_mod,Nat.testBit_eq_decide_div_mod_eq,decide_eq_true_eq]
 omega
theorem HN(a:List Int)(n:Nat)(σ:Hp)(lV:bc a)(hn:n≤1000000):ACalls Tryz.prog 178 [.af (.int .u64) a,.int .i64 n] σ (aE (.bool (hasB a n)) σ):=by
 refine az Tryz.func178 ?_
 have hd:=Mk n (by omega)
 have hm:=L5 n
 refine ei ?_
 refine aq (fun c1=>?_) (fun c1=>?_)
 ·have c1:IntKind.i64.wrap ((↑n:Int).tdiv 64)<(↑a.length:Int):=c1
  refine ei ?_
  have hi:n / 64<a.length:=by omega
  refine aI.mk rfl (bL.mk a[n / 64] (by omega) (by rw[hd];exact get_some hi) ?_)
  have hq:=acD (ha:=lV _ (cj hi)) (k:=n % 64) (by omega) hm
  have hb:hasB a n=a[n / 64].toNat.testBit (n % 64):=by unfold hasB;rw[kS a hi]
  refine ei ?_
  refine ei ?_
  refine aq (fun c2=>.done ⟨dc ?_,rfl⟩) (fun c2=>.done ⟨dc ?_,rfl⟩)
  ·rw[hb];exact (hq.1 c2).symm
  ·rw[hb];exact (E1.2 fun h=>c2 (hq.2 h)).symm
 ·have c1:¬(IntKind.i64.wrap ((↑n:Int).tdiv 64)<(↑a.length:Int)):=c1
  have hb:hasB a n=false:=by unfold hasB;rw[yc (by omega)];simp
  rw[hb]
  exact .done ⟨rfl,rfl⟩
theorem LO(l:List Int)(n q len:Nat)(σ:Hp)(hl:l.length=len)(hm:len≤10000)(hn:n / 64<len):ACalls Tryz.prog 280 [.ae q 0 len 1,.int .i64 n] ((q,aO l)::σ) (fun r σ'=>∃b,r=.ae b 0 len 1∧σ'=(b,aO (l.set (n / 64) (im (wd l (n / 64)) ((2 ^ (n % 64):Nat):Int))))::(q,aO l)::σ):=by
 refine az Tryz.func280 ?_
 have hd:=Mk n (by omega)
 have hm:=L5 n
 intro aG
 have ag2:(aO l).length=len*1:=by simp[aO,hl]
 have hle:0+len*1≤(aO l).length:=by omega
 have iR:((aO l).drop 0).take (len*1)=aO l:=eG (by rw[gM];omega)
 refine ic [] (acc:=[(aG,[])]) (k:=0) (cs:=[]) (n:=len) (.ae aG 0 [] rfl) (.ae 1 q 0 len (aO l) rfl hle) (by rw[iR];exact ag2) (by omega) (by decide) (by decide) (fun v' aU h'=>?_)
 rw[ef,iR,vQ]at h'
 generalize kI:aO l=cs at h'
 cases h' with
 |nil=>omega
 |ae b k cs h=>
 subst kI
 have hi:n / 64<l.length:=by omega
 refine .sched [] (upto [] 14 0) (by kernel_rfl) ?_
 refine ei ?_
 refine ei ?_
 refine aM ?_
 refine aT 0 rfl (HE hi hd) ?_
 have Ff:=UJ (n % 64) (by omega)
 rw[← hm]at Ff
 refine ei ?_
 refine ei ?_
 refine aM ?_
 refine da 0 rfl (Av hi _ hd) ?_
 rw[← Ff]
 exact .done ⟨_,rfl,rfl⟩
set_option maxHeartbeats 4000000 in
theorem adv(a b:List Int)(σ:Hp)(ha:bc a)(hb:bc b)(la:a.length≤10000)(lb:b.length≤10000):ACalls Tryz.prog 263 [.af (.int .u64) a,.af (.int .u64) b,.int .i64 1] σ (aE (.af (.int .u64) (dx im a b)) σ):=by
 refine az Tryz.func263 ?_
 obtain⟨n,hn⟩:∃n,n=max a.length b.length:=⟨_,rfl⟩
 have lM:(if (a.length:Int)<b.length then (b.length:Int) else a.length)=(n:Int):=by split <;> omega
 have hT:(dx im a b).length=n:=by rw[pQ,hn]
 have MQ:bc (dx im a b):=CV fun _ _=>TZ _ _
 have MO:∀k,k<64*n→hasB (dx im a b) k=((hasB a k).or (hasB b k)):=fun k hk=>by
  unfold hasB
  rw[yb im a b (by omega)]
  exact Le (kW ha _) (kW hb _) _
 have hM:(0:Int)≤(if (a.length:Int)<b.length then (b.length:Int) else a.length)∧(if (a.length:Int)<b.length then (b.length:Int) else a.length)≤1048576:=by rw[lM];omega
 refine aI.mk ⟨hM.1,kq _,hM.2,by decide⟩ ?_
 intro q
 refine cc (S:=Nat×Nat) (fun s=>[(0,.af (.int .u64) a),(1,.af (.int .u64) b),(2,.int .i64 1),(7,.ae s.2 0 n 1),(8,.int .i64 s.1)]) (fun s=>(s.2,aO (fQ (dx im a b) s.1))::σ) (fun s=>s.1≤64*n) (fun s=>64*n-s.1) (0,q) ⟨bD _,⟨rfl,rfl,rfl,?_,rfl,trivial⟩,?_⟩ ?_
 ·show AV.ae q 0 (if (a.length:Int)<b.length then (b.length:Int) else a.length).toNat 1=.ae q 0 n 1
  rw[lM,bM]
 ·show (q,cM [.int .u64 0] (if (a.length:Int)<b.length then (b.length:Int) else a.length).toNat)::σ=(q,aO (fQ (dx im a b) 0))::σ
  rw[lM,bM,Gh,hT,wL]
 rintro⟨k,p⟩ g aP
 have hk:k≤64*n:=aP
 clear aP
 have hlen:(fQ (dx im a b) k).length=n:=by rw[pR,hT]
 refine aq (fun ab=>?_) (fun au=>?_)
 ·have ab:k<64*n:=by
   have ab:(k:Int)<IntKind.i64.wrap (64*(n:Int)):=ab
   rw[IntKind.wrap_i64]at ab;omega
  have hs:=KD (T:=dx im a b) (n:=k) (by omega)
  have pI:=MO k ab
  refine eK [] (HN a k _ ha (by omega)) (fun cA=>?_) (fun cA=>?_) <;> refine eK [] (HN b k _ hb (by omega)) (fun cB=>?_) (fun cB=>?_) <;> rw[cA,cB]at pI <;> rw[pI]at hs
  all_goals first
   |(refine .mk [] _ (LO _ k _ _ _ hlen (by omega) (by omega)) ?_
     rintro r σ' ⟨b',rfl,rfl⟩
     refine bj (k+1,b') (by show 64*n-(k+1)<64*n-k;omega) ab ⟨rfl,rfl,rfl,rfl,aY (by omega),trivial⟩ (.drop 1 1 (aJ ?_))
     rw[hs.trans (ah rfl)]
     rfl)
   |(refine bj (k+1,p) (by show 64*n-(k+1)<64*n-k;omega) ab ⟨rfl,rfl,rfl,rfl,aY (by omega),trivial⟩ (aJ ?_)
     rw[hs.trans (ag (by decide))]
     rfl)
 ·have au:k=64*n:=by
   have au:¬(k:Int)<IntKind.i64.wrap (64*(n:Int)):=au
   rw[IntKind.wrap_i64]at au;omega
  subst au
  rw[← hT,SQ MQ]
  exact .cJ 0 p 0 _ 1 _ (.int .u64) (dx im a b) rfl (by rw[List.drop_zero,← kO];exact List.take_of_length_le (by simp[aO];exact Nat.le_refl _)) ⟨rfl,rfl,by decide⟩ .here (.done ⟨rfl,rfl⟩)
set_option maxHeartbeats 4000000 in
theorem adu(a b:List Int)(σ:Hp)(ha:bc a)(hb:bc b)(la:a.length≤10000)(lb:b.length≤10000):ACalls Tryz.prog 263 [.af (.int .u64) a,.af (.int .u64) b,.int .i64 3] σ (aE (.af (.int .u64) (dx fB a b)) σ):=by
 refine az Tryz.func263 ?_
 obtain⟨n,hn⟩:∃n,n=max a.length b.length:=⟨_,rfl⟩
 have lM:(if (a.length:Int)<b.length then (b.length:Int) else a.length)=(n:Int):=by split <;> omega
 have hT:(dx fB a b).length=n:=by rw[pQ,hn]
 have MQ:bc (dx fB a b):=CV fun _ _=>Hk _ _
 have MO:∀k,k<64*n→hasB (dx fB a b) k=((hasB a k).and (!hasB b k)):=fun k hk=>by
  unfold hasB
  rw[yb fB a b (by omega)]
  exact GY (kW ha _) (kW hb _) (by omega)
 have hM:(0:Int)≤(if (a.length:Int)<b.length then (b.length:Int) else a.length)∧(if (a.length:Int)<b.length then (b.length:Int) else a.length)≤1048576:=by rw[lM];omega
 refine aI.mk ⟨hM.1,kq _,hM.2,by decide⟩ ?_
 intro q
 refine cc (S:=Nat×Nat) (fun s=>[(0,.af (.int .u64) a),(1,.af (.int .u64) b),(2,.int .i64 3),(7,.ae s.2 0 n 1),(8,.int .i64 s.1)]) (fun s=>(s.2,aO (fQ (dx fB a b) s.1))::σ) (fun s=>s.1≤64*n) (fun s=>64*n-s.1) (0,q) ⟨bD _,⟨rfl,rfl,rfl,?_,rfl,trivial⟩,?_⟩ ?_
 ·show AV.ae q 0 (if (a.length:Int)<b.length then (b.length:Int) else a.length).toNat 1=.ae q 0 n 1
  rw[lM,bM]
 ·show (q,cM [.int .u64 0] (if (a.length:Int)<b.length then (b.length:Int) else a.length).toNat)::σ=(q,aO (fQ (dx fB a b) 0))::σ
  rw[lM,bM,Gh,hT,wL]
 rintro⟨k,p⟩ g aP
 have hk:k≤64*n:=aP
 clear aP
 have hlen:(fQ (dx fB a b) k).length=n:=by rw[pR,hT]
 refine aq (fun ab=>?_) (fun au=>?_)
 ·have ab:k<64*n:=by
   have ab:(k:Int)<IntKind.i64.wrap (64*(n:Int)):=ab
   rw[IntKind.wrap_i64]at ab;omega
  have hs:=KD (T:=dx fB a b) (n:=k) (by omega)
  have pI:=MO k ab
  refine eK [] (HN a k _ ha (by omega)) (fun cA=>?_) (fun cA=>?_) <;> refine eK [] (HN b k _ hb (by omega)) (fun cB=>?_) (fun cB=>?_) <;> rw[cA,cB]at pI <;> rw[pI]at hs
  all_goals first
   |(refine .mk [] _ (LO _ k _ _ _ hlen (by omega) (by omega)) ?_
     rintro r σ' ⟨b',rfl,rfl⟩
     refine bj (k+1,b') (by show 64*n-(k+1)<64*n-k;omega) ab ⟨rfl,rfl,rfl,rfl,aY (by omega),trivial⟩ (.drop 1 1 (aJ ?_))
     rw[hs.trans (ah rfl)]
     rfl)
   |(refine bj (k+1,p) (by show 64*n-(k+1)<64*n-k;omega) ab ⟨rfl,rfl,rfl,rfl,aY (by omega),trivial⟩ (aJ ?_)
     rw[hs.trans (ag (by decide))]
     rfl)
 ·have au:k=64*n:=by
   have au:¬(k:Int)<IntKind.i64.wrap (64*(n:Int)):=au
   rw[IntKind.wrap_i64]at au;omega
  subst au
  rw[← hT,SQ MQ]
  exact .cJ 0 p 0 _ 1 _ (.int .u64) (dx fB a b) rfl (by rw[List.drop_zero,← kO];exact List.take_of_length_le (by simp[aO];exact Nat.le_refl _)) ⟨rfl,rfl,by decide⟩ .here (.done ⟨rfl,rfl⟩)
def aD(n:Int):Int:=(n+32768) % 65536-32768
theorem wz(n:Int): -32768≤aD n:=by unfold aD;omega
theorem wA(n:Int):aD n≤32767:=by unfold aD;omega
theorem Py(n:Int):(0≤n∧n.tmod 65536=n % 65536)∨(n<0∧n.tmod 65536 = -((-n) % 65536)):=by
 by_cases h:0≤n
 ·exact .inl ⟨h,sK h⟩
 ·refine .inr ⟨by omega,?_⟩
  have:=Int.neg_tmod (-n) 65536
  rw[Int.neg_neg,sK (a:= -n) (by omega)]at this
  exact this
theorem Hd(n:Int)(σ:Hp):ACalls Tryz.prog 335 [.int .i64 n] σ (aE (.int .i64 (aD n)) σ):=by
 refine az Tryz.func335 ?_
 have hc:=Py n
 refine ei ?_
 refine aq (fun h1=>?_) (fun h1=>?_)
 ·have h1:32767<n.tmod 65536:=h1
  exact .done ⟨aV (by rw[IntKind.wrap_i64];unfold aD;omega),rfl⟩
 ·have h1:¬(32767<n.tmod 65536):=h1
  refine aq (fun h2=>?_) (fun h2=>?_)
  ·have h2:n.tmod 65536 < -32768:=h2
   exact .done ⟨aV (by rw[IntKind.wrap_i64];unfold aD;omega),rfl⟩
  ·have h2:¬(n.tmod 65536 < -32768):=h2
   exact .done ⟨aV (by unfold aD;omega),rfl⟩
theorem TS(n:Int)(σ:Hp):ACalls Tryz.prog 261 [.int .i64 n] σ (aE (.int .i64 (aD n)) σ):=by
 refine az Tryz.func261 ?_
 have hc:=Py n
 have e:IntKind.i64.wrap (n.tmod 65536+98304)=n.tmod 65536+98304:=by rw[IntKind.wrap_i64];omega
 have e2:(n.tmod 65536+98304).tmod 65536=(n.tmod 65536+98304) % 65536:=sK (by omega)
 refine ei ?_
 refine ei ?_
 exact .done ⟨aV (by rw[e,e2,IntKind.wrap_i64];unfold aD;omega),rfl⟩
abbrev nC(x y:Int):List AV:=[.int .i64 x,.int .i64 y]
theorem DU(a b:Int)(σ:Hp):ACalls Tryz.prog 309 [.int .i64 a,.int .i64 b] σ (aE (.agg (nC (aD a) (aD b))) σ):=by
 refine az Tryz.func309 ?_
 intro b1
 refine ay [] (Hd _ _) ?_
 refine ay [] (Hd _ _) ?_
 refine ai 0 ?_
 refine aa 0 ?_
 exact .drop 0 1 (.done ⟨rfl,rfl⟩)
theorem w8(a b:Int)(σ:Hp):ACalls Tryz.prog 223 [.int .i64 a,.int .i64 b] σ (aE (.agg (nC (aD a) (aD b))) σ):=by
 refine az Tryz.func223 ?_
 intro b1
 refine ay [] (TS _ _) ?_
 refine ay [] (TS _ _) ?_
 refine ai 0 ?_
 refine aa 0 ?_
 exact .drop 0 1 (.done ⟨rfl,rfl⟩)
theorem age(x y:Int)(σ:Hp):ACalls Tryz.prog 286 [.agg (nC x y)] σ (aE (.bool (decide (x=aD x)&&decide (y=aD y))) σ):=by
 refine az Tryz.func286 ?_
 intro aG
 refine .quiet (by kernel_rfl) ?_
 refine aa 0 ?_
 refine aa 0 ?_
 refine aa 0 ?_
 refine aL [] (DU _ _ _) ?_
 refine EqAt.mk (by kernel_rfl) (by kernel_rfl) ?_
 have e:gB (tb (nC x y) (nC (aD x) (aD y)))=(decide (x=aD x)&&decide (y=aD y)):=by
  show (decide (x=aD x)&&(decide (y=aD y)&&true))=_
  rw[I3]
 rw[← e]
 refine ew (fun c=>?_) (fun c=>?_)
 ·have c:gB (tb (nC x y) (nC (aD x) (aD y)))=true:=c
  rw[c]
  exact .drop 0 1 (.done ⟨rfl,rfl⟩)
 ·have c:gB (tb (nC x y) (nC (aD x) (aD y)))=false:=c
  rw[c]
  exact .drop 0 1 (.done ⟨rfl,rfl⟩)
theorem ya(x y:Int)(σ:Hp):ACalls Tryz.prog 364 [.agg (nC x y)] σ (aE (.fS (aD x) (aD y)) σ):=by
 have h1:=wz x
 have h2:=wA x
 have h3:=wz y
 have h4:=wA y
 refine az Tryz.func364 ?_
 intro aG
 refine aa 0 ?_
 refine aa 0 ?_
 refine ay [] (DU _ _ _) ?_
 refine ai 0 ?_
 refine aa 0 ?_
 refine .mk (by unfold ij;omega) ?_
 refine aa 0 ?_
 refine .mk (by unfold ij;omega) ?_
 exact .drop 0 1 (.done ⟨rfl,rfl⟩)
theorem T9{x:Int}(h:ij x):IntKind.i64.min≤x∧x≤IntKind.i64.max:=by
 unfold ij at h
 have e1:IntKind.i64.min = -9223372036854775808:=by decide
 have e2:IntKind.i64.max=9223372036854775807:=by decide
 rw[e1,e2];omega
theorem He(x y:Int)(σ:Hp)(hx:ij x)(hy:ij y):ACalls Tryz.prog 363 [.fS x y] σ (aE (.agg (nC (aD x) (aD y))) σ):=by
 refine az Tryz.func363 ?_
 intro aG
 refine .mk (T9 hx) ?_
 refine .mk (T9 hy) ?_
 refine ay [] (DU _ _ _) ?_
 refine ai 0 ?_
 refine aa 0 ?_
 exact .drop 0 1 (.done ⟨rfl,rfl⟩)
theorem F5{a b:Int}(ha : -32768≤a∧a≤32768)(hb : -32768≤b∧b≤32768): -1073741824≤a*b∧a*b≤1073741824:=by
 have h1:a.natAbs*b.natAbs≤32768*32768:=tS (by omega) (by omega)
 rw[← I8]at h1
 omega
theorem CZ(a b c d:Int):(-32768≤aD a∧aD a≤32767)∧(-32768≤aD b∧aD b≤32767)∧(-32768≤aD c∧aD c≤32767)∧-32768≤aD d∧aD d≤32767:=
 ⟨⟨wz a,wA a⟩,⟨wz b,wA b⟩,⟨wz c,wA c⟩,wz d,wA d⟩
theorem Vi(a b c d:Int):(-1073741824≤aD a*aD c∧aD a*aD c≤1073741824)∧(-1073741824≤aD b*aD d∧aD b*aD d≤1073741824)∧(-1073741824≤aD a*aD d∧aD a*aD d≤1073741824)∧-1073741824≤aD b*aD c∧aD b*aD c≤1073741824:=by
 have h:=CZ a b c d
 exact⟨F5 (by omega) (by omega),F5 (by omega) (by omega),F5 (by omega) (by omega),F5 (by omega) (by omega)⟩
theorem afd(a b c d:Int)(σ:Hp):ACalls Tryz.prog 356 [.agg (nC a b),.agg (nC c d)] σ (aE (.agg (nC (aD (aD a+aD c)) (aD (aD b+aD d)))) σ):=by
 have hF:=CZ a b c d
 refine az Tryz.func356 ?_
 intro aG
 intro dw
 intro sN
 refine .sched [1,3,5] (upto [1,3,5] 7 0) (by kernel_rfl) ?_
 refine aa 2 ?_
 refine aL [] (ya _ _ _) ?_
 refine aa 1 ?_
 refine aL [] (ya _ _ _) ?_
 refine .mk (by unfold ij;omega) ?_
 refine aL [] (He _ _ _ (by unfold ij;omega) (by unfold ij;omega)) ?_
 refine ai 0 ?_
 refine aa 0 ?_
 exact .drop 0 3 (.done ⟨rfl,rfl⟩)
theorem afb(a b c d:Int)(σ:Hp):ACalls Tryz.prog 357 [.agg (nC a b),.agg (nC c d)] σ (aE (.agg (nC (aD (aD a-aD c)) (aD (aD b-aD d)))) σ):=by
 have hF:=CZ a b c d
 refine az Tryz.func357 ?_
 intro aG
 intro dw
 intro sN
 refine .sched [1,3,5] (upto [1,3,5] 7 0) (by kernel_rfl) ?_
 refine aa 2 ?_
 refine aL [] (ya _ _ _) ?_
 refine aa 1 ?_
 refine aL [] (ya _ _ _) ?_
 refine .mk (by unfold ij;omega) ?_
 refine aL [] (He _ _ _ (by unfold ij;omega) (by unfold ij;omega)) ?_
 refine ai 0 ?_
 refine aa 0 ?_
 exact .drop 0 3 (.done ⟨rfl,rfl⟩)
theorem afc(a b c d:Int)(σ:Hp):ACalls Tryz.prog 358 [.agg (nC a b),.agg (nC c d)] σ (aE (.agg (nC (aD (aD a*aD c-aD b*aD d)) (aD (aD a*aD d+aD b*aD c)))) σ):=by
 have hF:=Vi a b c d
 refine az Tryz.func358 ?_
 intro aG
 intro dw
 intro sN
 refine .sched [1,3,5] (upto [1,3,5] 7 0) (by kernel_rfl) ?_
 refine aa 2 ?_
 refine aL [] (ya _ _ _) ?_
 refine aa 1 ?_
 refine aL [] (ya _ _ _) ?_
 refine .mk (by unfold ij;omega) ?_
 refine aL [] (He _ _ _ (by unfold ij;omega) (by unfold ij;omega)) ?_
 refine ai 0 ?_
 refine aa 0 ?_
 exact .drop 0 3 (.done ⟨rfl,rfl⟩)
theorem ae8(a b:Int)(σ:Hp):ACalls Tryz.prog 359 [.agg (nC a b)] σ (aE (.agg (nC (aD (aD a)) (aD (-aD b)))) σ):=by
 have hF:=CZ a b 0 0
 refine az Tryz.func359 ?_
 intro aG
 intro dw
 refine aa 1 ?_
 refine ay [] (ya _ _ _) ?_
 refine ay [] (He _ _ _ (by unfold ij;omega) (by unfold ij;omega)) ?_
 refine ai 0 ?_
 refine aa 0 ?_
 exact .drop 0 2 (.done ⟨rfl,rfl⟩)
def iI(op a b c d:Int):Option (Int×Int):=
 if op=0 then some (aD a,aD b) else
 if op=1 then some (aD (aD a+aD c),aD (aD b+aD d)) else
 if op=2 then some (aD (aD a-aD c),aD (aD b-aD d)) else
 if op=3 then some (aD (aD a*aD c-aD b*aD d),aD (aD a*aD d+aD b*aD c)) else
 if op=4 then some (aD (aD a),aD (-aD b)) else none
def tF(r:Option (Int×Int))(ok err:AV):AV:=match r with | some (x,y)=>.tup [.agg (nC x y),ok] | none=>.tup [.agg (nC 0 0),err]
theorem MT(op a b c d:Int)(σ:Hp):ACalls Tryz.prog 344 [.int .i64 op,.agg (nC a b),.agg (nC c d)] σ (aE (tF (iI op a b c d) (.int .i64 0) (.int .i64 10)) σ):=by
 refine az Tryz.func344 ?_
 intro aG
 intro dw
 intro sN
 intro JG
 refine aq (fun c5=>?_) (fun c5=>?_)
 ·have c5:op=0:=c5
  refine aa 3 ?_
  refine aa 3 ?_
  refine ay [] (DU _ _ _) ?_
  refine ai 0 ?_
  refine .fwd 1 ?_
  refine aa 0 ?_
  refine ai 1 ?_
  refine aa 1 ?_
  exact .drop 0 4 (.done ⟨(by simp[iI,tF, *];rfl),rfl⟩)
 ·have c5:¬(op=0):=c5
  refine aq (fun c6=>?_) (fun c6=>?_)
  ·have c6:op=1:=c6
   refine aa 3 ?_
   refine aa 2 ?_
   refine ay [] (afd _ _ _ _ _) ?_
   refine ai 0 ?_
   refine .fwd 1 ?_
   refine aa 0 ?_
   refine ai 1 ?_
   refine aa 1 ?_
   exact .drop 0 4 (.done ⟨(by simp[iI,tF, *];rfl),rfl⟩)
  ·have c6:¬(op=1):=c6
   refine aq (fun c7=>?_) (fun c7=>?_)
   ·have c7:op=2:=c7
    refine aa 3 ?_
    refine aa 2 ?_
    refine ay [] (afb _ _ _ _ _) ?_
    refine ai 0 ?_
    refine .fwd 1 ?_
    refine aa 0 ?_
    refine ai 1 ?_
    refine aa 1 ?_
    exact .drop 0 4 (.done ⟨(by simp[iI,tF, *];rfl),rfl⟩)
   ·have c7:¬(op=2):=c7
    refine aq (fun c8=>?_) (fun c8=>?_)
    ·have c8:op=3:=c8
     refine aa 3 ?_
     refine aa 2 ?_
     refine ay [] (afc _ _ _ _ _) ?_
     refine ai 0 ?_
     refine .fwd 1 ?_
     refine aa 0 ?_
     refine ai 1 ?_
     refine aa 1 ?_
     exact .drop 0 4 (.done ⟨(by simp[iI,tF, *];rfl),rfl⟩)
    ·have c8:¬(op=3):=c8
     refine aq (fun c9=>?_) (fun c9=>?_)
     ·have c9:op=4:=c9
      refine aa 3 ?_
      refine ay [] (ae8 _ _ _) ?_
      refine ai 0 ?_
      refine .fwd 1 ?_
      refine aa 0 ?_
      refine ai 1 ?_
      refine aa 1 ?_
      exact .drop 0 4 (.done ⟨(by simp[iI,tF, *];rfl),rfl⟩)
     ·have c9:¬(op=4):=c9
      refine ai 1 ?_
      refine aa 1 ?_
      exact .drop 0 4 (.done ⟨(by simp[iI,tF, *];rfl),rfl⟩)
def pg(x y:Int):Int:=aD x % 65536+65536*(aD y % 65536)
theorem Ci(x y:Int):0≤pg x y:=by unfold pg;omega
theorem Gf(x y:Int):pg x y<4294967296:=by unfold pg;omega
theorem Vf(n:Int):IntKind.u16.wrap n=n % 65536:=by simp[IntKind.wrap,IntKind.bits,IntKind.signed]
theorem TX(k:Nat){a b:Nat}(ha:a<2 ^ k)(hb:2 ^ k*b<18446744073709551616)(hk:2 ^ k<18446744073709551616):bits .or .u64 (a:Int) ((2 ^ k*b:Nat):Int)=((2 ^ k*b+a:Nat):Int):=by
 rw[sQ (by omega) hb,Nat.or_comm,Oq ha b]
theorem aby(x y:Int):bits BinOp.or IntKind.u64 (IntKind.u64.wrap (IntKind.u16.wrap (aD x))) (IntKind.u64.wrap (IntKind.u64.wrap (IntKind.u16.wrap (aD y))*2 ^ min (Int.toNat 16) IntKind.u64.bits))=pg x y:=by
 have e:(2:Int) ^ min (Int.toNat 16) IntKind.u64.bits=65536:=by decide
 rw[e,Vf,Vf,IntKind.wrap_u64,IntKind.wrap_u64,IntKind.wrap_u64]
 unfold pg
 generalize aD x=p
 generalize aD y=q
 have h:=TX 16 (a:=(p % 65536).toNat) (b:=(q % 65536).toNat) (by omega) (by omega) (by decide)
 have e1:(((p % 65536).toNat:Nat):Int)=p % 65536 % 18446744073709551616:=by omega
 have e2:((2 ^ 16*(q % 65536).toNat:Nat):Int)=q % 65536 % 18446744073709551616*65536 % 18446744073709551616:=by omega
 rw[e1,e2]at h
 rw[h];omega
theorem ZI(x y:Int):IntKind.u64.wrap (IntKind.u64.wrap ((IntKind.i64.wrap (aD x+65536)).tmod 65536)+IntKind.u64.wrap (65536*IntKind.u64.wrap ((IntKind.i64.wrap (aD y+65536)).tmod 65536)))=pg x y:=by
 have h1:=wz x
 have h2:=wA x
 have h3:=wz y
 have h4:=wA y
 unfold pg
 rw[IntKind.wrap_i64,IntKind.wrap_i64,sK (by omega),sK (by omega),IntKind.wrap_u64,IntKind.wrap_u64,IntKind.wrap_u64,IntKind.wrap_u64]
 omega
theorem ae7(x y:Int)(σ:Hp):ACalls Tryz.prog 342 [.agg (nC x y)] σ (aE (.int .u64 (pg x y)) σ):=by
 refine az Tryz.func342 ?_
 intro aG
 refine .quiet (by kernel_rfl) ?_
 refine aa 0 ?_
 refine aL [] (Hd _ _) ?_
 refine aa 0 ?_
 refine aL [] (Hd _ _) ?_
 refine ei ?_
 exact .drop 0 1 (.done ⟨aV (aby x y),rfl⟩)
theorem adL(x y:Int)(σ:Hp):ACalls Tryz.prog 326 [.agg (nC x y)] σ (aE (.int .u64 (pg x y)) σ):=by
 refine az Tryz.func326 ?_
 intro aG
 refine aa 0 ?_
 refine aa 0 ?_
 refine ay [] (w8 _ _ _) ?_
 refine ai 0 ?_
 refine aa 0 ?_
 refine ei ?_
 refine aa 0 ?_
 refine ei ?_
 exact .drop 0 1 (.done ⟨aV (ZI x y),rfl⟩)
def lr(x y:Int):Int:=2+4*pg x y
theorem HF(x y:Int)(σ:Hp):ACalls Tryz.prog 331 [.agg (nC x y)] σ (aE (.int .u64 (lr x y)) σ):=by
 refine az Tryz.func331 ?_
 intro aG
 refine aa 0 ?_
 refine ay [] (ae7 _ _ _) ?_
 refine ei ?_
 have e:bits BinOp.or IntKind.u64 2 (IntKind.u64.wrap (pg x y*2 ^ min (Int.toNat 2) IntKind.u64.bits))=lr x y:=by
  have e:(2:Int) ^ min (Int.toNat 2) IntKind.u64.bits=4:=by decide
  have h1:=Ci x y
  have h2:=Gf x y
  rw[e,IntKind.wrap_u64]
  unfold lr
  generalize pg x y=p at h1 h2 ⊢
  have h:=TX 2 (a:=2) (b:=p.toNat) (by decide) (by omega) (by decide)
  have e2:((2 ^ 2*p.toNat:Nat):Int)=p*4 % 18446744073709551616:=by omega
  rw[e2]at h
  exact h.trans (by omega)
 exact .drop 0 1 (.done ⟨aV e,rfl⟩)
theorem C8(x y:Int)(σ:Hp):ACalls Tryz.prog 293 [.agg (nC x y)] σ (aE (.int .u64 (lr x y)) σ):=by
 refine az Tryz.func293 ?_
 intro aG
 refine aa 0 ?_
 refine ay [] (adL _ _ _) ?_
 have e:IntKind.u64.wrap (2+IntKind.u64.wrap (4*pg x y))=lr x y:=by
  have h1:=Ci x y
  have h2:=Gf x y
  unfold lr
  rw[IntKind.wrap_u64,IntKind.wrap_u64];omega
 exact .drop 0 1 (.done ⟨aV e,rfl⟩)
def j9(w:Int):Int:=if eA w then aD (w / 4 % 65536) else 0
def ka(w:Int):Int:=if eA w then aD (w / 4 / 65536) else 0
theorem aaA(w:Int)(σ:Hp)(h:bH w):ACalls Tryz.prog 285 [.int .u64 w] σ (aE (if w<4294967296 then .tup [.agg (nC (aD (w % 65536)) (aD (w / 65536))),.bool true] else .tup [.agg (nC 0 0),.bool false]) σ):=by
 have e:=CB (k:=32) (m:=32) (w:=w) (by decide)
 have e16:w.fdiv (2 ^ min (Int.toNat 16) IntKind.u64.bits)=w / 65536:=CB (k:=16) (m:=16) (w:=w) (by decide)
 have ea:bits .and .u64 w 65535=w % 65536:=by
  show IntKind.u64.wrap ((BitVec.ofInt 64 w &&& BitVec.ofInt 64 65535).toNat:Int)=_
  have h3:(BitVec.ofInt 64 65535:BitVec 64).toNat=2 ^ 16-1:=by decide
  rw[BitVec.toNat_and,h3,Ov,BitVec.toNat_ofInt,IntKind.wrap_u64]
  omega
 have h1:=h.1
 have h2:=h.2
 refine az Tryz.func285 ?_
 intro b1
 refine ei ?_
 refine ew (fun h2=>?_) (fun h2=>?_)
 ·have h2:¬(w.fdiv (2 ^ min (Int.toNat 32) IntKind.u64.bits)=0):=by simpa using h2
  have hw:¬(w<4294967296):=fun h=>h2 (by rw[show w.fdiv (2 ^ min (Int.toNat 32) IntKind.u64.bits)=w / 2 ^ 32 from e];omega)
  refine ai 0 ?_
  refine aa 0 ?_
  rw[ag hw]
  exact .drop 0 1 (.done ⟨rfl,rfl⟩)
 ·have h2:w.fdiv (2 ^ min (Int.toNat 32) IntKind.u64.bits)=0:=by simpa using h2
  have hw:w<4294967296:=by rw[show w.fdiv (2 ^ min (Int.toNat 32) IntKind.u64.bits)=w / 2 ^ 32 from e]at h2;omega
  refine ei ?_
  refine ay [] (DU _ _ _) ?_
  refine ai 0 ?_
  refine aa 0 ?_
  rw[ah hw]
  have x1:IntKind.i64.wrap (bits .and .u64 w 65535)=w % 65536:=by rw[ea,IntKind.wrap_i64];omega
  have x2:IntKind.i64.wrap (w.fdiv (2 ^ min (Int.toNat 16) IntKind.u64.bits))=w / 65536:=by rw[e16,IntKind.wrap_i64];omega
  rw[← x1,← x2]
  exact .drop 0 1 (.done ⟨rfl,rfl⟩)
theorem AE(w:Int)(σ:Hp)(h:bH w):ACalls Tryz.prog 251 [.int .u64 w] σ (aE (.tup [.agg (nC (j9 w) (ka w)),.bool (eA w)]) σ):=by
 have e:=CB (k:=2) (m:=2) (w:=w) (by decide)
 have h0:=h.1
 have Oc:=h.2
 refine az Tryz.func251 ?_
 intro b1
 refine ew (fun h2=>?_) (fun h2=>?_)
 ·have h2:¬(bits BinOp.and IntKind.u64 w 3=2):=by simpa using h2
  rw[HJ]at h2
  have hn:eA w=false:=by simp[eA,h2]
  refine ai 0 ?_
  refine aa 0 ?_
  unfold j9 ka
  rw[hn]
  exact .drop 0 1 (.done ⟨rfl,rfl⟩)
 ·have h2:bits BinOp.and IntKind.u64 w 3=2:=by simpa using h2
  rw[HJ]at h2
  refine ei ?_
  have e':w.fdiv (2 ^ min (Int.toNat 2) IntKind.u64.bits)=w / 4:=e
  refine ay [] (aaA _ _ ⟨by rw[e'];omega,by rw[e'];omega⟩) ?_
  unfold j9 ka
  by_cases hw:w<17179869184
  ·have hn:eA w=true:=by simp[eA,h2];omega
   rw[ah (show w.fdiv (2 ^ min (Int.toNat 2) IntKind.u64.bits)<4294967296 by rw[e'];omega),hn]
   refine ai 0 ?_
   refine aa 0 ?_
   rw[e']
   exact .drop 0 1 (.done ⟨rfl,rfl⟩)
  ·have hn:eA w=false:=by simp[eA,h2];omega
   rw[ag (show ¬w.fdiv (2 ^ min (Int.toNat 2) IntKind.u64.bits)<4294967296 by rw[e'];omega),hn]
   refine ai 0 ?_
   refine aa 0 ?_
   exact .drop 0 1 (.done ⟨rfl,rfl⟩)
theorem Au(w:Int)(σ:Hp)(h:bH w):ACalls Tryz.prog 179 [.int .u64 w] σ (aE (.tup [.agg (nC (j9 w) (ka w)),.bool (eA w)]) σ):=by
 have h0:=h.1
 have h2:=h.2
 have e1:w.tmod 4=w % 4:=sK h0
 have e2:IntKind.u64.wrap (w.tdiv 4)=w / 4:=by rw[BJ h0,IntKind.wrap_u64];omega
 refine az Tryz.func179 ?_
 unfold j9 ka
 intro aG
 refine ei ?_
 refine ew (fun c2=>?_) (fun c2=>?_)
 ·have c2:¬(w.tmod 4=2):=by simpa using c2
  have hn:eA w=false:=by unfold eA;simp;omega
  rw[hn]
  refine ai 0 ?_
  refine aa 0 ?_
  exact .drop 0 1 (.done ⟨rfl,rfl⟩)
 ·have c2:w.tmod 4=2:=by simpa using c2
  refine ei ?_
  refine aq (fun c3=>?_) (fun c3=>?_)
  ·have c3:4294967296≤IntKind.u64.wrap (w.tdiv 4):=c3
   have hn:eA w=false:=by unfold eA;simp;omega
   rw[hn]
   refine ai 0 ?_
   refine aa 0 ?_
   exact .drop 0 1 (.done ⟨rfl,rfl⟩)
  ·have c3:¬(4294967296≤IntKind.u64.wrap (w.tdiv 4)):=c3
   have hn:eA w=true:=by unfold eA;simp;omega
   have e3:IntKind.i64.wrap (IntKind.u64.wrap (w.tdiv 4))=w / 4:=by rw[e2,IntKind.wrap_i64];omega
   have e4:(w / 4).tmod 65536=w / 4 % 65536:=sK (by omega)
   have e5:IntKind.i64.wrap ((w / 4).tdiv 65536)=w / 4 / 65536:=by rw[BJ (by omega),IntKind.wrap_i64];omega
   rw[hn,ah rfl,ah rfl,← e4,← e5,← e3]
   refine ei ?_
   refine ei ?_
   refine ei ?_
   refine ay [] (w8 _ _ _) ?_
   refine ai 0 ?_
   refine aa 0 ?_
   exact .drop 0 1 (.done ⟨rfl,rfl⟩)
theorem cy{n:Int}(h : -4611686018427387904≤n∧n≤4611686018427387904):IntKind.i64.wrap n=n:=by rw[IntKind.wrap_i64];omega
theorem MA(op a b c d:Int)(σ:Hp):ACalls Tryz.prog 294 [.int .i64 op,.agg (nC a b),.agg (nC c d)] σ (aE (tF (iI op a b c d) (.bool true) (.bool false)) σ):=by
 have hF:=CZ a b c d
 have hM:=Vi a b c d
 refine az Tryz.func294 ?_
 intro aG
 intro dw
 intro sN
 refine aa 2 ?_
 refine aa 2 ?_
 refine ay [] (w8 _ _ _) ?_
 refine ai 2 ?_
 refine aa 1 ?_
 refine aa 1 ?_
 refine ay [] (w8 _ _ _) ?_
 refine ai 1 ?_
 refine aq (fun c4=>?_) (fun c4=>?_)
 ·have c4:op=0:=c4
  refine aa 2 ?_
  refine ai 0 ?_
  refine aa 0 ?_
  exact .drop 0 3 (.done ⟨(by simp[iI,tF, *];rfl),rfl⟩)
 ·have c4:¬(op=0):=c4
  refine aq (fun c5=>?_) (fun c5=>?_)
  ·have c5:op=1:=c5
   refine aa 2 ?_
   refine aa 1 ?_
   refine aa 2 ?_
   refine aa 1 ?_
   refine ay [] (w8 _ _ _) ?_
   refine ai 0 ?_
   refine aa 0 ?_
   have eo:iI op a b c d=some (aD (aD a+aD c),aD (aD b+aD d)):=by simp[iI, *]
   have ev:AV.tup [.agg (nC (aD (IntKind.i64.wrap (aD a+aD c))) (aD (IntKind.i64.wrap (aD b+aD d)))),.bool true]=AV.tup [.agg (nC (aD (aD a+aD c)) (aD (aD b+aD d))),.bool true]:=by rw[cy (n:=aD a+aD c) (by omega),cy (n:=aD b+aD d) (by omega)]
   rw[eo]
   exact .drop 0 3 (.done ⟨ev,rfl⟩)
  ·have c5:¬(op=1):=c5
   refine aq (fun c6=>?_) (fun c6=>?_)
   ·have c6:op=2:=c6
    refine aa 2 ?_
    refine aa 1 ?_
    refine aa 2 ?_
    refine aa 1 ?_
    refine ay [] (w8 _ _ _) ?_
    refine ai 0 ?_
    refine aa 0 ?_
    have eo:iI op a b c d=some (aD (aD a-aD c),aD (aD b-aD d)):=by simp[iI, *]
    have ev:AV.tup [.agg (nC (aD (IntKind.i64.wrap (aD a-aD c))) (aD (IntKind.i64.wrap (aD b-aD d)))),.bool true]=AV.tup [.agg (nC (aD (aD a-aD c)) (aD (aD b-aD d))),.bool true]:=by rw[cy (n:=aD a-aD c) (by omega),cy (n:=aD b-aD d) (by omega)]
    rw[eo]
    exact .drop 0 3 (.done ⟨ev,rfl⟩)
   ·have c6:¬(op=2):=c6
    refine aq (fun c7=>?_) (fun c7=>?_)
    ·have c7:op=3:=c7
     refine aa 2 ?_
     refine aa 1 ?_
     refine aa 2 ?_
     refine aa 1 ?_
     refine aa 2 ?_
     refine aa 1 ?_
     refine aa 2 ?_
     refine aa 1 ?_
     refine ay [] (w8 _ _ _) ?_
     refine ai 0 ?_
     refine aa 0 ?_
     have eo:iI op a b c d=some (aD (aD a*aD c-aD b*aD d),aD (aD a*aD d+aD b*aD c)):=by simp[iI, *]
     have ev:AV.tup [.agg (nC (aD (IntKind.i64.wrap (IntKind.i64.wrap (aD a*aD c)-IntKind.i64.wrap (aD b*aD d)))) (aD (IntKind.i64.wrap (IntKind.i64.wrap (aD a*aD d)+IntKind.i64.wrap (aD b*aD c))))),.bool true]=AV.tup [.agg (nC (aD (aD a*aD c-aD b*aD d)) (aD (aD a*aD d+aD b*aD c))),.bool true]:=by rw[cy (n:=aD a*aD c) (by omega),cy (n:=aD b*aD d) (by omega),cy (n:=aD a*aD d) (by omega),cy (n:=aD b*aD c) (by omega),cy (n:=aD a*aD c-aD b*aD d) (by omega),cy (n:=aD a*aD d+aD b*aD c) (by omega)]
     rw[eo]
     exact .drop 0 3 (.done ⟨ev,rfl⟩)
    ·have c7:¬(op=3):=c7
     refine aq (fun c8=>?_) (fun c8=>?_)
     ·have c8:op=4:=c8
      refine aa 2 ?_
      refine aa 2 ?_
      refine ay [] (w8 _ _ _) ?_
      refine ai 0 ?_
      refine aa 0 ?_
      have eo:iI op a b c d=some (aD (aD a),aD (-aD b)):=by simp[iI, *]
      have ev:AV.tup [.agg (nC (aD (aD a)) (aD (IntKind.i64.wrap (0-aD b)))),.bool true]=AV.tup [.agg (nC (aD (aD a)) (aD (-aD b))),.bool true]:=by rw[cy (n:=0-aD b) (by omega),Int.zero_sub]
      rw[eo]
      exact .drop 0 3 (.done ⟨ev,rfl⟩)
     ·have c8:¬(op=4):=c8
      refine ai 0 ?_
      refine aa 0 ?_
      exact .drop 0 3 (.done ⟨(by simp[iI,tF, *];rfl),rfl⟩)
end Go.Proofs.YtnikdflhefijbaaGreat
