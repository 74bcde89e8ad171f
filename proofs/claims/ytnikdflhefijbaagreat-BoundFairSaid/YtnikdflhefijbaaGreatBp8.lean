import Derived.Test.YtnikdflhefijbaaGreatBp7
namespace Go.Proofs.YtnikdflhefijbaaGreat
open Go.RowKit
set_option maxRecDepth 100000
abbrev fE:Type:=Int×Int×Unit
def gb(n:Nat)(af:List fE):List Nat:=af.map fun p=>df p.1 n
def qt(n K:Nat)(L:List Nat):Prop:=∀i,i+K≤L.length→∀j,j<n→j∈(L.drop i).take K
theorem KI{L:List Nat}{i K j:Nat}(h:j∈(L.drop i).take K):∃t,i≤t∧t<i+K∧L[t]?=some j:=by
 obtain⟨m,hm⟩:=kI.1 h
 rw[nV]at hm
 split at hm
 ·rw[wV]at hm
  exact⟨i+m,by omega,by omega,hm⟩
 ·cases hm
theorem Qr{L:List Nat}{i K j t:Nat}(h1:i≤t)(h2:t<i+K)(h3:L[t]?=some j):j∈(L.drop i).take K:=by
 refine kI.2 ⟨t-i,?_⟩
 rw[nV,ag (by omega),wV,show i+(t-i)=t by omega]
 exact h3
theorem qt.take{n K:Nat}{L:List Nat}(h:qt n K L)(m:Nat):qt n K (L.take m):=fun i hi j hj=>by
 rw[sb]at hi
 obtain⟨t,h1,h2,h3⟩:=KI (h i (by omega) j hj)
 exact Qr h1 h2 (by rw[nV,ag (by omega)];exact h3)
def xK(n:Nat)(L:List Nat)(i:Nat)(last:List Int):Prop:=last.length=n∧∀j,j<n→∃a:Nat,last.getD j 0=(a:Int)-1∧a≤i∧∀t,a≤t→t<i→L[t]?≠some j
theorem agG(n:Nat)(L:List Nat):xK n L 0 (List.replicate n (-1)):=by
 refine⟨fZ,fun j hj=>⟨0,?_,aM _,fun t _ ht=>by omega⟩⟩
 rw[aR,uT,ag hj];rfl
theorem xK.set{n:Nat}{L:List Nat}{i w:Nat}{last:List Int}(h:xK n L i last)(hw:L[i]?=some w):xK n L (i+1) (last.set w (i:Int)):=by
 refine⟨by rw[ck];exact h.1,fun j hj=>?_⟩
 obtain⟨a,h1,h2,h3⟩:=h.2 j hj
 by_cases e:w=j
 ·subst e
  refine⟨i+1,?_,aM _,fun t h1 h2=>by omega⟩
  rw[aR,dY,ag rfl,ag (by rw[h.1];exact hj)]
  show (i:Int)=((i+1:Nat):Int)-1
  omega
 ·refine⟨a,?_,by omega,fun t h4 h5=>?_⟩
  ·rw[aR,dY,ah e,← aR];exact h1
  ·rcases wR (yz h5) with h6 | rfl
   ·exact h3 t h4 h6
   ·rw[hw];intro h7;cases h7;exact e rfl
theorem xK.gap{n K:Nat}{L:List Nat}{i j:Nat}{last:List Int}(h:xK n L i last)(hF:qt n K L)(hj:j<n)(hi:i≤L.length):0≤(i:Int)-last.getD j 0∧(i:Int)-last.getD j 0≤K∧(i:Int)-last.getD j 0≤i+1:=by
 obtain⟨a,h1,h2,h3⟩:=h.2 j hj
 rw[h1]
 refine⟨by omega,?_,by omega⟩
 apply Classical.byContradiction
 intro hn
 obtain⟨t,h4,h5,h6⟩:=KI (hF a (by omega) j hj)
 exact h3 t h4 (by omega) h6
def fK{α:Type}(l:List α):Nat→List α
 | 0=>[]
 |m+1=>fK l m++l
theorem xe{α:Type}(l:List α):∀m,(fK l m).length=m*l.length
 | 0=>by rw[qR];rfl
 |m+1=>by show (fK l m++l).length=_;rw[bG,xe l m,lR]
theorem Rj{α:Type}(l:List α):∀m t,t<m*l.length→(fK l m)[t]?=l[t % l.length]?
 | 0,t,h=>by rw[qR]at h;omega
 |m+1,t,h=>by
  show (fK l m++l)[t]?=_
  rw[lR]at h
  have hl:=xe l m
  by_cases h2:t<m*l.length
  ·rw[jG (by omega)]
   exact Rj l m t h2
  ·rw[ij (by omega),hl]
   congr 1
   have h3:t=t-m*l.length+m*l.length:=by omega
   have h4:t % l.length=(t-m*l.length) % l.length:=by
    conv=>lhs;rw[h3]
    rw[Nat.add_mul_mod_self_right]
   rw[h4,r9 (by omega)]
theorem RF{α β:Type}(f:α→β)(l:List α):∀m,(fK l m).map f=fK (l.map f) m
 | 0=>rfl
 |m+1=>by show (fK l m++l).map f=fK (l.map f) m++l.map f;rw[cM,RF f l m]
theorem YA{n K:Nat}{l:List Nat}(h:qt n K (l++l))(hK:K≤l.length)(m:Nat):qt n K (fK l m):=by
 intro i hi j hj
 rw[xe]at hi
 by_cases h0:l.length=0
 ·rw[h0,Nat.mul_zero]at hi
  have:=h 0 (by omega) j hj
  rw[show K=0 by omega,List.take_zero]at this
  cases this
 have h1:=mW i (show 0<l.length by omega)
 have h2:=Nat.div_add_mod i l.length
 obtain⟨t,h3,h4,h5⟩:=KI (h (i % l.length) (by rw[bG];omega) j hj)
 have h6:(l++l)[t]?=l[t % l.length]?:=by
  by_cases h7:t<l.length
  ·rw[jG h7,r9 h7]
  ·rw[ij (by omega),Nat.mod_eq_sub_mod (by omega),r9 (by omega)]
 refine Qr (t:=l.length*(i / l.length)+t) (by omega) (by omega) ?_
 rw[Rj l m _ (by omega),Nat.mul_add_mod,← h6]
 exact h5
theorem Ao{i:TI}{K:AV→Hp→Prop}(fr:Hp){acc σ:Hp}{k n:Nat}{v x:AV}{cs new:List AV}(h:Acc i.size k v acc cs)(hx:j4 (fr++(acc++σ)) i.size x n new)(hY:new.length=n*i.size)(hn:k+n≤1048576)(hb:i.bytes≤1024)(h0:0<i.size)
  (go:∀v' bN,Acc i.size (k+n) v' bN (cs++new)→K v' (fr++(bN++σ))):AppendAt i (fr++(acc++σ)) v x K:=by
 have hl:=h.length
 cases h with
 |nil=>
  refine .perm _ (fB fr [] σ) (.fresh n new (.inl rfl) (hx.perm (fB fr [] σ)) (by omega) hb h0 (K:=fun v ej=>(n=0∧v=.aj∧ej=[]++(fr++σ))∨(n≠0∧∃b,v=.ae b 0 n i.size∧ej=(b,new)::([]++(fr++σ)))) (fun aO b=>.inr ⟨aO,b,rfl,rfl⟩) (fun h0=>.inl ⟨h0,rfl,rfl⟩)) ?_
  rintro v ej (⟨hz,rfl,rfl⟩ | ⟨hz,b,rfl,rfl⟩)
  ·subst hz
   obtain rfl:new=[]:=List.length_eq_zero_iff.1 (by simpa using hY)
   exact⟨_,(fB fr [] σ).symm,.inl (go _ _ .nil)⟩
  ·refine⟨_,(fB fr [(b,new)] σ).symm,.inl (go _ _ ?_)⟩
   have:=Acc.ae (e:=i.size) b (0+n) new (by rw[hY,dK])
   rw[dK]at this ⊢
   exact this
 |ae b k cs h=>
  refine .perm _ (fB fr [(b,cs)] σ) (.more 0 b k n cs new rfl rfl (by rw[h];exact aM _) (hx.perm (fB fr [(b,cs)] σ)) hn hb h0 (K:=fun v ej=>∃b',v=.ae b' 0 (k+n) i.size∧ej=(b',cs.take (k*i.size)++new)::(fr++σ)) (fun b'=>⟨b',rfl,rfl⟩)) ?_
  rintro v ej ⟨b',rfl,rfl⟩
  rw[eZ (by omega)]
  exact⟨_,(fB fr [(b',cs++new)] σ).symm,.inl (go _ _ (.ae _ _ _ (by rw[bG,h,hY,lh])))⟩
theorem nf(f:List Hp)(σ:Hp){a b:List Nat}(h:a.Perm b):(a.foldr (fun i t=>f.getD i []++t) σ).Perm (b.foldr (fun i t=>f.getD i []++t) σ):=by
 induction h with
 |nil=>exact .refl _
 |cons x _ ih=>exact ih.append_left _
 |swap x y l=>exact fB _ _ _
 |trans _ _ EV EU=>exact EV.trans EU
set_option maxHeartbeats 4000000
theorem aa6{β:Type}(f:Nat→β)(c:β→AV)(i:Nat):((List.range (i+1)).map f).map c=((List.range i).map f).map c++[c (f i)]:=by
 rw[wU,cM,cM];rfl
theorem aih{e k:Nat}{v:AV}{acc:Hp}{cs cs':List AV}(h:cs=cs')(ha:Acc e k v acc cs'):Acc e k v acc cs:=h▸ha
theorem agj(g:FuncId)(cap:List AV)(St:List Nat→Hp→Prop)(S0 σ:Hp)(h0:St [] S0)(n:Nat)(hn:n≤100000)(E9:∀(L:List Nat) (S τ:Hp),L.length<n→St L S→ACalls Tryz.prog g (.int .i64 L.length::cap) (S++τ) (fun r σ'=>∃w S',r=.ptr w 0∧σ'=S'++τ∧St (L++[w]) S')):ACalls Tryz.prog 98 [.int .i64 n,.fn (.func g) [] cap] (S0++σ) (fun r σ'=>∃L S' acc,L.length=n∧St L S'∧Acc 1 n r acc (L.map fun w=>.ptr w 0)∧σ'=acc++(S'++σ)):=by
 refine aA Tryz.func98 ?_
 refine .wrap 5 .aj rfl rfl ?_
 refine cj (S:=List Nat×AV×Hp×{S:Hp // True}) (fun t=>[(1,.fn (.func g) [] cap),(5,.via t.2.1),(7,.int .i64 n),(8,.int .i64 t.1.length)]) (fun t=>t.2.2.1++(t.2.2.2.1++σ)) (fun t=>t.1.length≤n∧Acc 1 t.1.length t.2.1 t.2.2.1 (t.1.map (fun w=>AV.ptr w 0))∧St t.1 t.2.2.2.1) (fun t=>n-t.1.length) ([],.aj,[],⟨S0,trivial⟩) ⟨⟨bK _,.nil,h0⟩,⟨rfl,rfl,rfl,rfl,trivial⟩,rfl⟩ ?_
 rintro⟨L,v,acc,⟨S,_⟩⟩ g2 ⟨fi,h0,Fp⟩
 have hi:L.length≤n:=fi
 have h:Acc 1 L.length v acc (L.map (fun w=>AV.ptr w 0)):=h0
 have hS:St L S:=Fp
 clear fi h0 Fp
 refine aq (p:=(L.length:Int)<(n:Int)) (fun ab=>?_) (fun ay=>?_)
 rotate_left
 ·have ay:L.length=n:=by omega
  exact .done ⟨L,S,acc,ay,hS,ay▸h,rfl⟩
 have ab:L.length<n:=by omega
 refine .perm (σ2:=S++(acc++σ)) _ (fB acc S σ) (E9 L S (acc++σ) ab hS) ?_
 rintro _ _ ⟨w,S',rfl,rfl,B6⟩
 refine⟨_,(fB acc S' σ).symm,?_⟩
 intro b1
 refine my [_] h (.ae 0 b1 0 1 _ rfl (cT rfl)) rfl (by omega) (by decide) (by decide) (fun v' bN h'=>?_)
 refine aZ (L++[w],v',bN,⟨S',trivial⟩) (by show n-(L++[w]).length<n-L.length;rw[bG];simp only[se];omega) ⟨by rw[bG];exact ab,?_,B6⟩ ⟨rfl,rfl,rfl,?_,trivial⟩ (.drop 0 1 (.refl _))
 ·show Acc 1 (L++[w]).length v' bN ((L++[w]).map (fun w=>AV.ptr w 0))
  rw[bG,cM]
  exact h'
 ·rw[bG]
  exact bu (show L.length<1000000000 by omega)
theorem VH(g:FuncId)(cap:List AV)(St:List Nat→Hp→Prop)(S0 σ:Hp)(h0:St [] S0)(n:Nat)(hn:n≤100000)(E9:∀(L:List Nat) (S τ:Hp),L.length<n→St L S→ACalls Tryz.prog g (.int .i64 L.length::cap) (S++τ) (fun r σ'=>∃w S',r=.iface 168 (.ptr w 0)∧σ'=S'++τ∧St (L++[w]) S')):ACalls Tryz.prog 102 [.int .i64 n,.fn (.func g) [] cap] (S0++σ) (fun r σ'=>∃L S' acc,L.length=n∧St L S'∧Acc 1 n r acc (L.map fun w=>.iface 168 (.ptr w 0))∧σ'=acc++(S'++σ)):=by
 refine aA Tryz.func102 ?_
 refine .wrap 5 .aj rfl rfl ?_
 refine cj (S:=List Nat×AV×Hp×{S:Hp // True}) (fun t=>[(1,.fn (.func g) [] cap),(5,.via t.2.1),(7,.int .i64 n),(8,.int .i64 t.1.length)]) (fun t=>t.2.2.1++(t.2.2.2.1++σ)) (fun t=>t.1.length≤n∧Acc 1 t.1.length t.2.1 t.2.2.1 (t.1.map (fun w=>AV.iface 168 (.ptr w 0)))∧St t.1 t.2.2.2.1) (fun t=>n-t.1.length) ([],.aj,[],⟨S0,trivial⟩) ⟨⟨bK _,.nil,h0⟩,⟨rfl,rfl,rfl,rfl,trivial⟩,rfl⟩ ?_
 rintro⟨L,v,acc,⟨S,_⟩⟩ g2 ⟨fi,h0,Fp⟩
 have hi:L.length≤n:=fi
 have h:Acc 1 L.length v acc (L.map (fun w=>AV.iface 168 (.ptr w 0))):=h0
 have hS:St L S:=Fp
 clear fi h0 Fp
 refine aq (p:=(L.length:Int)<(n:Int)) (fun ab=>?_) (fun ay=>?_)
 rotate_left
 ·have ay:L.length=n:=by omega
  exact .done ⟨L,S,acc,ay,hS,ay▸h,rfl⟩
 have ab:L.length<n:=by omega
 refine .perm (σ2:=S++(acc++σ)) _ (fB acc S σ) (E9 L S (acc++σ) ab hS) ?_
 rintro _ _ ⟨w,S',rfl,rfl,B6⟩
 refine⟨_,(fB acc S' σ).symm,?_⟩
 intro b1
 refine my [_] h (.ae 0 b1 0 1 _ rfl (cT rfl)) rfl (by omega) (by decide) (by decide) (fun v' bN h'=>?_)
 refine aZ (L++[w],v',bN,⟨S',trivial⟩) (by show n-(L++[w]).length<n-L.length;rw[bG];simp only[se];omega) ⟨by rw[bG];exact ab,?_,B6⟩ ⟨rfl,rfl,rfl,?_,trivial⟩ (.drop 0 1 (.refl _))
 ·show Acc 1 (L++[w]).length v' bN ((L++[w]).map (fun w=>AV.iface 168 (.ptr w 0)))
  rw[bG,cM]
  exact h'
 ·rw[bG]
  exact bu (show L.length<1000000000 by omega)
theorem agk(g:FuncId)(cap:List AV)(S σ:Hp)(f:Nat→List Int)(n:Nat)(hn:n≤100000)(E9:∀i:Nat,i<n→∀τ,ACalls Tryz.prog g (.int .i64 i::cap) (S++τ) (aE (.ai (.int .u64) (f i)) (S++τ))):ACalls Tryz.prog 104 [.int .i64 n,.fn (.func g) [] cap] (S++σ) (aE (.ai (.slice (.int .u64)) ((List.range n).map f)) (S++σ)):=by
 refine aA Tryz.func104 ?_
 refine .wrap 5 .aj rfl rfl ?_
 refine cj (S:=Nat×AV×Hp) (fun t=>[(1,.fn (.func g) [] cap),(5,.via t.2.1),(7,.int .i64 n),(8,.int .i64 t.1)]) (fun t=>t.2.2++(S++σ)) (fun t=>t.1≤n∧Acc 1 t.1 t.2.1 t.2.2 (((List.range t.1).map f).map (AV.ai (.int .u64)))) (fun t=>n-t.1) (0,.aj,[]) ⟨⟨bK _,.nil⟩,⟨rfl,rfl,rfl,rfl,trivial⟩,rfl⟩ ?_
 rintro⟨i,v,acc⟩ g ⟨fi,h0⟩
 have hi:i≤n:=fi
 have h:Acc 1 i v acc (((List.range i).map f).map (AV.ai (.int .u64))):=h0
 clear fi h0
 refine aq (p:=(i:Int)<(n:Int)) (fun ab=>?_) (fun ay=>?_)
 rotate_left
 ·have ay:i=n:=by omega
  subst ay
  have hlen:((List.range i).map f).length=i:=by rw[cb,oY]
  exact xB [] (s:=(.slice (.int .u64))) h hlen.symm (List.map_eq_flatMap ..) Nat.one_pos (.done ⟨rfl,rfl⟩)
 have ab:i<n:=by omega
 refine .perm (σ2:=S++(acc++σ)) _ (fB acc S σ) (E9 i ab (acc++σ)) ?_
 rintro _ _ ⟨rfl,rfl⟩
 refine⟨_,(fB acc S σ).symm,?_⟩
 intro b1
 refine my [_] h (.ae 0 b1 0 1 _ rfl (cT rfl)) rfl (by omega) (by decide) (by decide) (fun v' bN h'=>?_)
 refine aZ (i+1,v',bN) (by show n-(i+1)<n-i;omega) ⟨ab,?_⟩ ⟨rfl,rfl,rfl,bu (by omega),trivial⟩ (.drop 0 1 (.refl _))
 show Acc 1 (i+1) v' bN (((List.range (i+1)).map f).map (AV.ai (.int .u64)))
 exact aih (aa6 f (AV.ai (.int .u64)) i) h'
end Go.Proofs.YtnikdflhefijbaaGreat
namespace Go.Proofs.YtnikdflhefijbaaGreat
def bS:List Nat→Nat
 | []=>0
 |b::l=>bS l*256+b
theorem CS(a b c d:Nat)(hb:b<256)(hd:d<256):(a*256+b) &&& (c*256+d)=(a &&& c)*256+(b &&& d):=by
 have zZ:b &&& d<256:=Ch FL hb
 refine Cj fun i=>?_
 rw[JR,uO a,uO c,uO (a &&& c),show (256:Nat)=2 ^ 8 by decide,Pj a hb,Pj c hd,Pj (a &&& c) zZ]
 split
 ·rw[JR]
 ·rw[JR]
def g1(b:Nat):Nat:=(b / 2 &&& 85)+(b &&& 85)
def g2(b:Nat):Nat:=(b / 4 &&& 51)+(b &&& 51)
def g3(b:Nat):Nat:=(b / 16+b) &&& 15
theorem ah6:∀h<2,∀b<256,(h*128+b / 2) &&& 85=b / 2 &&& 85:=by decide +kernel
theorem ah5:∀h<4,∀b<256,(h*64+b / 4) &&& 51=b / 4 &&& 51:=by decide +kernel
theorem acg:∀b<256,g1 b≤170:=by decide +kernel
theorem acf:∀b<256,g2 (g1 b) % 16≤4∧g2 (g1 b) / 16≤4:=by decide +kernel
theorem ah4:∀h≤4,∀l≤4,∀k≤4,(k*16+((h*16+l) / 16+(h*16+l))) &&& 15=g3 (h*16+l)∧k*16+((h*16+l) / 16+(h*16+l))<256:=by decide +kernel
def vS(b:Nat):Nat:=g3 (g2 (g1 b))
theorem vv:∀b<256,vS b≤8:=by decide +kernel
theorem ZT:∀b<256,vS b=0→b=0:=by decide +kernel
theorem U2:∀(l:List Nat),(∀b∈l,b<256)→(bS l / 2 &&& bS (l.map fun _=>85))+(bS l &&& bS (l.map fun _=>85))=bS (l.map g1)
 | [],_=>rfl
 |b::l,h=>by
  have hb:=h b (.head _)
  have ih:=U2 l (fun x hx=>h x (.tail _ hx))
  show (((bS l*256+b) / 2) &&& (bS (l.map fun _=>85)*256+85))+((bS l*256+b) &&& (bS (l.map fun _=>85)*256+85))=bS (l.map g1)*256+g1 b
  have e:(bS l*256+b) / 2=bS l / 2*256+(bS l % 2*128+b / 2):=by omega
  rw[e,CS _ _ _ _ (by omega) (by decide),CS _ _ _ _ hb (by decide),ah6 _ (mW _ (by decide)) _ hb,← ih]
  show _=_*256+((b / 2 &&& 85)+(b &&& 85))
  generalize bS l / 2 &&& bS (l.map fun _=>85)=A
  generalize bS l &&& bS (l.map fun _=>85)=B
  generalize b / 2 &&& 85=C
  generalize b &&& 85=D
  omega
theorem U1:∀(l:List Nat),(∀b∈l,b<256)→(bS l / 4 &&& bS (l.map fun _=>51))+(bS l &&& bS (l.map fun _=>51))=bS (l.map g2)
 | [],_=>rfl
 |b::l,h=>by
  have hb:=h b (.head _)
  have ih:=U1 l (fun x hx=>h x (.tail _ hx))
  show (((bS l*256+b) / 4) &&& (bS (l.map fun _=>51)*256+51))+((bS l*256+b) &&& (bS (l.map fun _=>51)*256+51))=bS (l.map g2)*256+g2 b
  have e:(bS l*256+b) / 4=bS l / 4*256+(bS l % 4*64+b / 4):=by omega
  rw[e,CS _ _ _ _ (by omega) (by decide),CS _ _ _ _ hb (by decide),ah5 _ (mW _ (by decide)) _ hb,← ih]
  show _=_*256+((b / 4 &&& 51)+(b &&& 51))
  generalize bS l / 4 &&& bS (l.map fun _=>51)=A
  generalize bS l &&& bS (l.map fun _=>51)=B
  generalize b / 4 &&& 51=C
  generalize b &&& 51=D
  omega
theorem ab2:∀(l:List Nat),(∀b∈l,b % 16≤4∧b / 16≤4)→bS l % 16≤4
 | [],_=>by decide
 |b::l,h=>by
  have:=(h b (.head _)).1
  show (bS l*256+b) % 16≤4
  omega
theorem U0:∀(l:List Nat),(∀b∈l,b % 16≤4∧b / 16≤4)→((bS l / 16+bS l) &&& bS (l.map fun _=>15))=bS (l.map g3)
 | [],_=>rfl
 |b::l,h=>by
  obtain⟨h1,h2⟩:=h b (.head _)
  have ih:=U0 l (fun x hx=>h x (.tail _ hx))
  have hm:=ab2 l (fun x hx=>h x (.tail _ hx))
  show (((bS l*256+b) / 16+(bS l*256+b)) &&& (bS (l.map fun _=>15)*256+15))=bS (l.map g3)*256+g3 b
  have s4:b=b / 16*16+b % 16:=by omega
  obtain⟨f1,f2⟩:=ah4 _ h2 _ h1 _ hm
  rw[← s4]at f1 f2
  have e:(bS l*256+b) / 16+(bS l*256+b)=(bS l / 16+bS l)*256+(bS l % 16*16+(b / 16+b)):=by omega
  rw[e,CS _ _ _ _ f2 (by decide),f1,ih]
def vG(x:Nat):List Nat:=[x % 256,x / 256 % 256,x / 65536 % 256,x / 16777216 % 256,x / 4294967296 % 256,x / 1099511627776 % 256,x / 281474976710656 % 256,x / 72057594037927936 % 256]
theorem Q4{x:Nat}(h:x<18446744073709551616):bS (vG x)=x:=by
 unfold vG bS bS bS bS bS bS bS bS bS
 omega
theorem Le(x:Nat):∀b∈vG x,b<256:=by
 intro b hb
 simp only[vG,da,wQ,or_false]at hb
 omega
def ue(x:Nat):Nat:=((vG x).map vS).sum
theorem adK(x:Nat):ue x≤64:=by
 have h:=Le x
 unfold ue vG at *
 simp only[oV,List.map_nil,JH,List.sum_nil,da,wQ,or_false,forall_eq_or_imp,forall_eq]at *
 obtain⟨h0,h1,h2,h3,h4,h5,h6,h7⟩:=h
 have:=vv _ h0
 have:=vv _ h1
 have:=vv _ h2
 have:=vv _ h3
 have:=vv _ h4
 have:=vv _ h5
 have:=vv _ h6
 have:=vv _ h7
 omega
theorem ZS{x:Nat}(hx:x<18446744073709551616)(h:ue x=0):x=0:=by
 have hb:=Le x
 have hv:=Q4 hx
 unfold ue at h
 generalize vG x=l at *
 have hz:∀b∈l,b=0:=by
  intro b hm
  refine ZT b (hb b hm) ?_
  have hle:∀(l:List Nat),b∈l→vS b≤(l.map vS).sum:=by
   intro l
   induction l with
   |nil=>intro h;cases h
   |cons c l ih=>
    intro h
    rw[oV,JH]
    rcases da.1 h with rfl | h
    ·omega
    ·have:=ih h;omega
  have:=hle l hm
  omega
 have:∀(l:List Nat),(∀b∈l,b=0)→bS l=0:=by
  intro l
  induction l with
  |nil=>intro _;rfl
  |cons b l ih=>
   intro h
   show bS l*256+b=0
   rw[ih (fun x hx=>h x (.tail _ hx)),h b (.head _)]
 rw[← hv,this l hz]
theorem agZ{e0 e1 e2 e3 e4 e5 e6 e7 x3 y1 y2 y3:Nat}(h:e0≤8∧e1≤8∧e2≤8∧e3≤8∧e4≤8∧e5≤8∧e6≤8∧e7≤8)(hx:x3=bS [e0,e1,e2,e3,e4,e5,e6,e7])(h1:y1=x3+x3 / 256)(h2:y2=y1+y1 / 65536)(h3:y3=y2+y2 / 4294967296):y3 % 128=e0+e1+e2+e3+e4+e5+e6+e7∧y3<9223372036854775808∧y2<18446744073709551616∧y1<18446744073709551616:=by
 obtain⟨k0,k1,k2,k3,k4,k5,k6,k7⟩:=h
 obtain⟨T1,OX⟩:∃T,T=bS [e1,e2,e3,e4,e5,e6,e7]:=⟨_,rfl⟩
 obtain⟨T2,Fl⟩:∃T,T=bS [e2,e3,e4,e5,e6,e7]:=⟨_,rfl⟩
 obtain⟨T3,OW⟩:∃T,T=bS [e3,e4,e5,e6,e7]:=⟨_,rfl⟩
 obtain⟨T4,OV⟩:∃T,T=bS [e4,e5,e6,e7]:=⟨_,rfl⟩
 obtain⟨T5,OU⟩:∃T,T=bS [e5,e6,e7]:=⟨_,rfl⟩
 obtain⟨T6,OT⟩:∃T,T=bS [e6,e7]:=⟨_,rfl⟩
 obtain⟨T7,OS⟩:∃T,T=bS [e7]:=⟨_,rfl⟩
 have hx:x3=T1*256+e0:=by rw[hx,OX];rfl
 have t1:T1=T2*256+e1:=by rw[OX,Fl];rfl
 have t2:T2=T3*256+e2:=by rw[Fl,OW];rfl
 have t3:T3=T4*256+e3:=by rw[OW,OV];rfl
 have t4:T4=T5*256+e4:=by rw[OV,OU];rfl
 have t5:T5=T6*256+e5:=by rw[OU,OT];rfl
 have t6:T6=T7*256+e6:=by rw[OT,OS];rfl
 have t7:T7=e7:=by rw[OS];exact dK _
 clear OX Fl OW OV OU OT OS
 have d1:x3 / 256=T1:=by clear h1 h2 h3 t1 t2 t3 t4 t5 t6 t7;omega
 have u1:y1=(T2+T3)*65536+(e1*256+e2*256+e0+e1):=by rw[h1,d1];clear h1 h2 h3 d1 t3 t4 t5 t6 t7;omega
 have d2:y1 / 65536=T2+T3:=by clear h1 h2 h3 t1 t2 t3 t4 t5 t6 t7 d1 hx;omega
 have u2:y2=(T4+T5+T6+T7)*4294967296+((e0+e1+e2+e3)+(e1+e2+e3+e4)*256+(e2+e3+e4+e5)*65536+(e3+e4+e5+e6)*16777216):=by rw[h2,d2,u1];clear h1 h2 h3 d1 d2 u1 hx t7;omega
 have d3:y2 / 4294967296=T4+T5+T6+T7:=by clear h1 h2 h3 t1 t2 t3 t4 t5 t6 t7 d1 d2 hx u1;omega
 have u3:y3=(T4+T5+T6+T7)*4294967296+((e0+e1+e2+e3)+(e1+e2+e3+e4)*256+(e2+e3+e4+e5)*65536+(e3+e4+e5+e6)*16777216)+(T4+T5+T6+T7):=by rw[h3,d3,u2]
 have b7:T7≤8:=by omega
 have b6:T6≤2056:=by clear u1 u2 u3 d1 d2 d3 h1 h2 h3 hx;omega
 have b5:T5≤526344:=by clear u1 u2 u3 d1 d2 d3 h1 h2 h3 hx;omega
 have b4:T4≤134744072:=by clear u1 u2 u3 d1 d2 d3 h1 h2 h3 hx;omega
 have b3:T3≤34494482440:=by clear u1 u2 u3 d1 d2 d3 h1 h2 h3 hx;omega
 have b2:T2≤8830587504648:=by clear u1 u2 u3 d1 d2 d3 h1 h2 h3 hx;omega
 refine⟨?_,?_,?_,?_⟩
 ·clear u1 u2 d1 d2 d3 h1 h2 h3 hx b2 b3 b4 b5 b6 b7 t1 t2 t3;omega
 ·clear u1 u2 d1 d2 d3 h1 h2 h3 hx t1 t2 t3 t4 t5 t6 t7;omega
 ·clear u1 u3 d1 d2 d3 h1 h2 h3 hx t1 t2 t3 t4 t5 t6 t7;omega
 ·clear u2 u3 d1 d2 d3 h1 h2 h3 hx t1 t2 t3 t4 t5 t6 t7;omega
set_option maxRecDepth 100000
theorem Df{z:Int}(h:bM z):(z.toNat:Int)=z:=by unfold bM at h;omega
theorem xU{z:Int}(h:bM z):z.toNat<18446744073709551616:=by unfold bM at h;omega
theorem adi{n:Nat}(h:n<18446744073709551616):bM (n:Int):=by unfold bM;omega
theorem si{a b:Nat}(ha:a<18446744073709551616)(hb:b<18446744073709551616):bits .and .u64 (a:Int) (b:Int)=((a &&& b:Nat):Int):=by
 show IntKind.u64.wrap ((BitVec.ofInt 64 (a:Int) &&& BitVec.ofInt 64 (b:Int)).toNat:Int)=_
 rw[BitVec.toNat_and,BitVec.ofInt_natCast,BitVec.ofInt_natCast,BitVec.toNat_ofNat,BitVec.toNat_ofNat,r9 ha,r9 hb,IntKind.wrap_u64]
 have:a &&& b≤a:=FL
 omega
theorem tk{a b:Nat}(ha:a<18446744073709551616)(hb:b<18446744073709551616):bits .or .u64 (a:Int) (b:Int)=((a ||| b:Nat):Int):=by
 show IntKind.u64.wrap ((BitVec.ofInt 64 (a:Int) ||| BitVec.ofInt 64 (b:Int)).toNat:Int)=_
 rw[BitVec.toNat_or,BitVec.ofInt_natCast,BitVec.ofInt_natCast,BitVec.toNat_ofNat,BitVec.toNat_ofNat,r9 ha,r9 hb,IntKind.wrap_u64]
 have:a ||| b<2 ^ 64:=JY ha hb
 have mV:(2:Nat) ^ 64=18446744073709551616:=by decide
 omega
theorem LH(a:Nat)(k:Nat)(j:Int)(hj:min j.toNat IntKind.u64.bits=k):(a:Int).fdiv (2 ^ min j.toNat IntKind.u64.bits)=((a / 2 ^ k:Nat):Int):=by
 rw[hj,Int.fdiv_eq_ediv_of_nonneg _ (Int.pow_nonneg (by decide)),Int.natCast_ediv,Int.natCast_pow];rfl
theorem LV:∀(l:List Nat),(∀b∈l,b<256)→bS l<256 ^ l.length
 | [],_=>by decide
 |b::l,h=>by
  have:=LV l (fun x hx=>h x (.tail _ hx))
  have hb:=h b (.head _)
  show bS l*256+b<256 ^ (l.length+1)
  rw[Nat.pow_succ]
  omega
def oA(k m x:Int):Int:=IntKind.u64.wrap (bits .and .u64 (x.fdiv (2 ^ min k.toNat IntKind.u64.bits)) m+bits .and .u64 x m)
def oB(x:Int):Int:=bits .and .u64 (IntKind.u64.wrap (x.fdiv (2 ^ min (4:Int).toNat IntKind.u64.bits)+x)) 1085102592571150095
def oC(k x:Int):Int:=IntKind.u64.wrap (x+x.fdiv (2 ^ min k.toNat IntKind.u64.bits))
def oD(x:Int):Int:=bits .and .i64 (IntKind.i64.wrap x) 127
theorem zb{n:Nat}(h:n<18446744073709551616):IntKind.u64.wrap (n:Int)=n:=by rw[IntKind.wrap_u64];omega
theorem afV(n:Nat)(h:n<9223372036854775808):oD (n:Int)=((n % 128:Nat):Int):=by
 unfold oD
 rw[show IntKind.i64.wrap (n:Int)=n by rw[IntKind.wrap_i64];omega]
 show IntKind.i64.wrap ((BitVec.ofInt 64 (n:Int) &&& BitVec.ofInt 64 (127:Int)).toNat:Int)=_
 rw[BitVec.toNat_and,BitVec.ofInt_natCast,BitVec.toNat_ofNat,r9 (show n<2 ^ 64 from FG h (by decide)),show (BitVec.ofInt 64 (127:Int)).toNat=2 ^ 7-1 by decide,Po,IntKind.wrap_i64]
 have:(2:Nat) ^ 7=128:=by decide
 omega
theorem abJ{n:Nat}(h:n<18446744073709551616):oD (oC 32 (oC 16 (oC 8 (oB (oA 2 3689348814741910323 (oA 1 6148914691236517205 (n:Int)))))))=(ue n:Int):=by
 have hb:=Le n
 have hv:=Q4 h
 obtain⟨l,hl⟩:∃l,l=vG n:=⟨_,rfl⟩
 have hlen:l.length=8:=by rw[hl];rfl
 rw[← hl]at hb hv
 have NU:(256:Nat) ^ 8=18446744073709551616:=by decide
 have k9:∀b∈l.map g1,b<256:=fun b hm=>by
  obtain⟨c,hc,rfl⟩:=cY.1 hm
  have:=acg c (hb c hc);omega
 have p7:∀b∈(l.map g1).map g2,b % 16≤4∧b / 16≤4:=fun b hm=>by
  obtain⟨c,hc,rfl⟩:=cY.1 hm
  obtain⟨d,hd,rfl⟩:=cY.1 hc
  exact acf d (hb d hd)
 have ahX:∀b∈(l.map g1).map g2,b<256:=fun b hm=>by have:=p7 b hm;omega
 have m1:bS (l.map fun _=>85)=6148914691236517205:=by rw[List.map_const',hlen];rfl
 have m2:bS ((l.map g1).map fun _=>51)=3689348814741910323:=by rw[List.map_const',cb,hlen];rfl
 have m3:bS (((l.map g1).map g2).map fun _=>15)=1085102592571150095:=by rw[List.map_const',cb,cb,hlen];rfl
 have s1:=U2 l hb
 have s2:=U1 (l.map g1) k9
 have s3:=U0 ((l.map g1).map g2) p7
 rw[m1,hv]at s1
 rw[m2]at s2
 rw[m3]at s3
 have l1:=LV _ k9
 have l2:=LV _ ahX
 rw[cb,hlen,NU]at l1
 rw[cb,cb,hlen,NU]at l2
 have hA:∀(x m y k:Nat) (j:Int),min j.toNat IntKind.u64.bits=k→x<18446744073709551616→m<18446744073709551616→(x / 2 ^ k &&& m)+(x &&& m)=y→y<18446744073709551616→oA j (m:Int) (x:Int)=(y:Int):=by
  intro x m y k j hj hx hm hy wC
  unfold oA
  rw[LH x k j hj,si (Ch (Nat.div_le_self _ _) hx) hm,si hx hm,← p8,hy]
  exact zb wC
 have e1:=hA n 6148914691236517205 _ 1 1 rfl h (by decide) s1 l1
 have e2:=hA _ 3689348814741910323 _ 2 2 rfl l1 (by decide) s2 l2
 have rU:bS ((l.map g1).map g2) / 16+bS ((l.map g1).map g2)<18446744073709551616:=by
  have hz:∀(q:List Nat),(∀b∈q,b % 16≤4∧b / 16≤4)→bS q*2<256 ^ q.length∨q=[]:=by
   intro q
   induction q with
   |nil=>intro _;exact .inr rfl
   |cons b q ih=>
    intro h
    have hb:=h b (.head _)
    refine .inl ?_
    show (bS q*256+b)*2<256 ^ (q.length+1)
    rw[Nat.pow_succ]
    rcases ih (fun x hx=>h x (.tail _ hx)) with h1 | rfl
    ·omega
    ·show (0*256+b)*2<256 ^ 0*256
     omega
  rcases hz _ p7 with h1 | h1
  ·rw[cb,cb,hlen,NU]at h1
   omega
  ·have:=congrArg List.length h1
   rw[cb,cb,hlen]at this
   cases this
 have e3:oB (bS ((l.map g1).map g2):Int)=(bS (((l.map g1).map g2).map g3):Int):=by
  unfold oB
  rw[LH _ 4 4 rfl,← p8,show (2:Nat) ^ 4=16 by decide,zb rU]
  have:=si (b:=1085102592571150095) rU (by decide)
  rw[s3]at this
  exact this
 have hC:∀(x k:Nat) (j:Int),min j.toNat IntKind.u64.bits=k→x+x / 2 ^ k<18446744073709551616→oC j (x:Int)=((x+x / 2 ^ k:Nat):Int):=by
  intro x k j hj hx
  unfold oC
  rw[LH x k j hj,← p8]
  exact zb hx
 have ahG:((l.map g1).map g2).map g3=l.map vS:=by simp[vS,Function.comp_def]
 rw[ahG]at e3
 obtain⟨e0,f1,f2,f3,f4,f5,f6,f7,hq,ahB,hle⟩:∃e0 e1 e2 e3 e4 e5 e6 e7,l.map vS=[e0,e1,e2,e3,e4,e5,e6,e7]∧ue n=e0+e1+e2+e3+e4+e5+e6+e7∧(e0≤8∧e1≤8∧e2≤8∧e3≤8∧e4≤8∧e5≤8∧e6≤8∧e7≤8):=by
  refine⟨_,_,_,_,_,_,_,_,by rw[hl];rfl,?_,?_⟩
  ·unfold ue vG
   simp only[oV,List.map_nil,JH,List.sum_nil]
   omega
  ·refine⟨?_,?_,?_,?_,?_,?_,?_,?_⟩ <;> exact vv _ (mW _ (by decide))
 obtain⟨X,hX⟩:∃X,X=bS (l.map vS):=⟨_,rfl⟩
 rw[← hX]at e3
 rw[hq]at hX
 obtain⟨g1',g2',g3',g4'⟩:=agZ hle hX rfl rfl rfl
 have e4:=hC X 8 8 rfl g4'
 have e5:=hC (X+X / 256) 16 16 rfl g3'
 have e6:=hC (X+X / 256+(X+X / 256) / 65536) 32 32 rfl (FG g2' (by decide))
 have uB:oA 1 6148914691236517205 (n:Int)=_:=e1
 rw[uB]
 have rT:oA 2 3689348814741910323 (bS (l.map g1):Int)=_:=e2
 rw[rT,e3,e4]
 have e5:oC 16 ((X+X / 256:Nat):Int)=_:=e5
 have e6:oC 32 ((X+X / 256+(X+X / 256) / 65536:Nat):Int)=_:=e6
 rw[show ((X+X / 2 ^ 8:Nat):Int)=((X+X / 256:Nat):Int) from rfl,e5,show ((X+X / 256+(X+X / 256) / 2 ^ 16:Nat):Int)=((X+X / 256+(X+X / 256) / 65536:Nat):Int) from rfl,e6]
 rw[afV _ g2',ahB,← g1']
theorem ahf{x:Int}(h:bM x)(σ:Hp):ACalls Tryz.prog 306 [.int .u64 x] σ (aE (.int .i64 (ue x.toNat)) σ):=by
 refine aA Tryz.func306 ?_
 have hv:=abJ (xU h)
 rw[Df h]at hv
 refine aH.mk (by decide) ?_
 refine iJ ?_
 refine iJ ?_
 refine iJ ?_
 refine iJ ?_
 refine iJ ?_
 exact .done ⟨aW hv,rfl⟩
def hasB(a:List Int)(n:Nat):Bool:=(wd a (n / 64)).toNat.testBit (n % 64)
def fU(f:Int→Int→Int)(a b:List Int):List Int:=(List.range (max a.length b.length)).map fun i=>f (wd a i) (wd b i)
theorem tg(f:Int→Int→Int)(a b:List Int):(fU f a b).length=max a.length b.length:=by simp[fU]
theorem Da(f:Int→Int→Int)(a b:List Int){i:Nat}(h:i<max a.length b.length):wd (fU f a b) i=f (wd a i) (wd b i):=by
 unfold fU wd
 rw[eU,wS h]
 rfl
theorem AH{a:List Int}{i:Nat}(h:a.length≤i):wd a i=0:=by unfold wd;rw[uS h];rfl
theorem lv(b:List Int){i:Nat}(h:i<b.length):wd b i=b[i]:=by unfold wd;rw[bc h];rfl
theorem AR{a b:List Int}(hl:a.length=b.length)(h:∀i,i<a.length→wd a i=wd b i):a=b:=by
 refine Cn hl fun i h1 h2=>?_
 have:=h i h1
 rw[lv a h1,lv b h2]at this
 exact this
theorem Mw{n:Nat}{f:Nat→Int}(h:∀i,i<n→bM (f i)):bA ((List.range n).map f):=fun z hz=>by
 obtain⟨i,hi,rfl⟩:=cY.1 hz
 exact h i (fA.1 hi)
abbrev mL(x y:Int):Int:=bits .or .u64 x y
abbrev jJ(x y:Int):Int:=bits .andNot .u64 x y
theorem afs(x y:Int):bM (mL x y):=Dd _
theorem MN(x y:Int):bM (jJ x y):=Dd _
theorem toNat_ofInt{z:Int}(h:bM z):(BitVec.ofInt 64 z).toNat=z.toNat:=by
 have:=xU h
 rw[BitVec.toNat_ofInt]
 unfold bM at h
 omega
theorem Ui{x y:Int}(hx:bM x)(hy:bM y)(k:Nat):(mL x y).toNat.testBit k=(x.toNat.testBit k||y.toNat.testBit k):=by
 have e:mL x y=((BitVec.ofInt 64 x ||| BitVec.ofInt 64 y).toNat:Int):=by
  show IntKind.u64.wrap _=_
  exact zb (BitVec.isLt _)
 rw[e,bU,BitVec.toNat_or,JN,toNat_ofInt hx,toNat_ofInt hy]
theorem Mp{x y:Int}(hx:bM x)(hy:bM y){k:Nat}(hk:k<64):(jJ x y).toNat.testBit k=(x.toNat.testBit k&&!y.toNat.testBit k):=by
 have e:jJ x y=((BitVec.ofInt 64 x &&& ~~~BitVec.ofInt 64 y).toNat:Int):=by
  show IntKind.u64.wrap _=_
  exact zb (BitVec.isLt _)
 rw[e,bU,BitVec.testBit_toNat,BitVec.getLsbD_and,BitVec.getLsbD_not,aY hk,z8,← BitVec.testBit_toNat,← BitVec.testBit_toNat,toNat_ofInt hx,toNat_ofInt hy]
def jA(T:List Int)(n:Nat):List Int:=(List.range T.length).map fun i=>(((wd T i).toNat % 2 ^ min 64 (n-64*i):Nat):Int)
theorem w9(T:List Int)(n:Nat):(jA T n).length=T.length:=by simp[jA]
theorem AW(T:List Int)(n:Nat){i:Nat}(h:i<T.length):wd (jA T n) i=(((wd T i).toNat % 2 ^ min 64 (n-64*i):Nat):Int):=by
 unfold jA
 unfold wd
 rw[eU,wS h]
 rfl
theorem aby(T:List Int):jA T 0=List.replicate T.length 0:=by
 refine List.ext_getElem (by simp[jA]) fun i h1 h2=>?_
 rw[List.getElem_replicate,← lv _ h1,AW T 0 (by simpa [jA]using h1),Nat.zero_sub,Nat.min_zero,Nat.pow_zero,Nat.mod_one]
 rfl
theorem mod_succ(x k:Nat):x % 2 ^ (k+1)=if x.testBit k then x % 2 ^ k ||| 2 ^ k else x % 2 ^ k:=by
 refine Cj fun i=>?_
 cases hb:x.testBit k with
 |false=>
  rw[ah (by decide),Ka,Ka]
  by_cases h1:i<k
  ·rw[aY (show i<k+1 by omega),aY h1]
  ·by_cases h2:i=k
   ·subst h2;rw[hb];simp
   ·rw[b9 (show ¬i<k+1 by omega),b9 h1]
 |true=>
  rw[ag rfl,JN,Ka,Ka,Pb]
  by_cases h1:i<k
  ·rw[decide_eq_true (show i<k+1 by omega),decide_eq_true h1,decide_eq_false (show ¬k=i by omega)];simp
  ·by_cases h2:i=k
   ·subst h2;rw[hb];simp
   ·rw[b9 (show ¬i<k+1 by omega),b9 h1,b9 (show ¬k=i by omega)];rfl
theorem abz{T:List Int}{n:Nat}(h:n<64*T.length):jA T (n+1)=if hasB T n then (jA T n).set (n / 64) (mL (wd (jA T n) (n / 64)) ((2 ^ (n % 64):Nat):Int)) else jA T n:=by
 have hi:n / 64<T.length:=by omega
 have hk:n % 64<64:=mW _ (by decide)
 have ab:∀m,(wd T (n / 64)).toNat % 2 ^ min 64 m<18446744073709551616:=fun m=>by
  have h1:(wd T (n / 64)).toNat % 2 ^ min 64 m<2 ^ min 64 m:=mW _ (Cb _)
  have h2:2 ^ min 64 m≤2 ^ 64:=uR (by decide) (Nat.min_le_left _ _)
  have h3:(2:Nat) ^ 64=18446744073709551616:=by decide
  omega
 have hp:2 ^ (n % 64)<18446744073709551616:=by
  have h2:2 ^ (n % 64)<2 ^ 64:=Nat.pow_lt_pow_right (by decide) hk
  exact h2
 have e1:min 64 (n-64*(n / 64))=n % 64:=by omega
 have e2:min 64 (n+1-64*(n / 64))=n % 64+1:=by omega
 have hm:=mod_succ (wd T (n / 64)).toNat (n % 64)
 have Vj:∀i,i≠n / 64→min 64 (n+1-64*i)=min 64 (n-64*i):=fun i aO=>by omega
 unfold hasB
 refine AR ?_ fun i Ju=>?_
 ·rw[w9]
  split
  ·rw[ck,w9]
  ·rw[w9]
 ·rw[w9]at Ju
  rw[AW T _ Ju]
  cases hb:(wd T (n / 64)).toNat.testBit (n % 64) with
  |true=>
   rw[hb,ag rfl]at hm
   rw[ag rfl]
   by_cases hc:i=n / 64
   ·subst hc
    have hs:wd ((jA T n).set (n / 64) (mL (wd (jA T n) (n / 64)) ((2 ^ (n % 64):Nat):Int))) (n / 64)=mL (wd (jA T n) (n / 64)) ((2 ^ (n % 64):Nat):Int):=by
     unfold wd
     rw[List.getElem?_set_self (by rw[w9];exact hi)];rfl
    have ahN:=ab (n-64*(n / 64))
    rw[hs,AW T n hi,show mL _ _=_ from tk ahN hp,e2,e1,hm]
   ·have hs:wd ((jA T n).set (n / 64) (mL (wd (jA T n) (n / 64)) ((2 ^ (n % 64):Nat):Int))) i=wd (jA T n) i:=by
     unfold wd
     rw[Pd (fun h=>hc h.symm)]
    rw[hs,AW T n Ju,Vj i hc]
  |false=>
   rw[hb,ah (by decide)]at hm
   rw[ah (by decide),AW T n Ju]
   by_cases hc:i=n / 64
   ·subst hc
    rw[e2,e1,hm]
   ·rw[Vj i hc]
def eS(w:Int):Nat:=(min (max w 0) 1024).toNat
def eX(w:Int):Nat:=(eS w+63) / 64
theorem Mn(w:Int):eS w≤1024:=by unfold eS;omega
theorem CZ(w:Int):eX w≤16:=by have:=Mn w;unfold eX;omega
theorem acB(n:Int):(if (1024:Int)<(if n<0 then 0 else n) then (1024:Int) else (if n<0 then 0 else n))=((eS n:Nat):Int):=by
 unfold eS
 by_cases h:n<0
 ·simp only[ag h];omega
 ·simp only[ah h];split <;> omega
def gd(w:Int):List Int:=(List.range (eX w)).map fun i=>((2 ^ min 64 (eS w-64*i)-1:Nat):Int)
theorem qZ(w:Int):(gd w).length=eX w:=by simp[gd]
theorem C7(w:Int){i:Nat}(h:i<eX w):wd (gd w) i=((2 ^ min 64 (eS w-64*i)-1:Nat):Int):=by
 unfold gd wd
 rw[eU,wS h]
 rfl
theorem agy(m:Nat):2 ^ min 64 m≤18446744073709551616:=uR (by decide) (Nat.min_le_left _ _)
theorem Tn(w:Int):bA (gd w):=Mw fun i _=>adi (by
 have:=agy (eS w-64*i)
 have:=Cb (min 64 (eS w-64*i))
 omega)
def gq(a:List Int)(w:Int):Bool:=decide (a.length=eX w)&&(List.range a.length).all fun i=>decide ((wd a i).toNat<2 ^ min 64 (eS w-64*i))
theorem aal{a:List Int}{w:Int}(mV:bA a)(hl:a.length=eX w):gq a w=true↔∀n,eS w≤n→n<64*a.length→hasB a n=false:=by
 unfold gq hasB
 rw[aY hl,z8,fp]
 constructor
 ·intro h n h1 h2
  have hi:n / 64<a.length:=by omega
  have:=h (n / 64) (fA.2 hi)
  simp only[decide_eq_true_eq]at this
  refine wX (sc this (uR (by decide) ?_))
  omega
 ·intro h i hi
  have hi:=fA.1 hi
  rw[decide_eq_true_eq]
  have WW:=xU (oe mV i)
  rcases go2 (eS w-64*i) 64 with hc | hc
  ·rw[Nat.min_eq_right (by omega)]
   refine Nat.lt_pow_two_of_testBit _ fun k hk=>?_
   rcases go2 k 64 with ef | ef
   ·have:=h (64*i+k) (by omega) (by omega)
    rw[show (64*i+k) / 64=i by omega,show (64*i+k) % 64=k by omega]at this
    exact this
   ·refine wX (sc WW ?_)
    exact uR (by decide:0<2) ef
  ·rw[J9 hc]
   exact WW
theorem aak{a:List Int}{w:Int}(mV:bA a)(hl:a.length=eX w):gq a w=true↔∀i,i<a.length→jJ (wd a i) (wd (gd w) i)=0:=by
 unfold gq
 rw[aY hl,z8,fp]
 have hf:∀i,i<a.length→((wd a i).toNat<2 ^ min 64 (eS w-64*i)↔jJ (wd a i) (wd (gd w) i)=0):=by
  intro i hi
  have ha:=oe mV i
  have hb:=oe (Tn w) i
  have hn:(wd (gd w) i).toNat=2 ^ min 64 (eS w-64*i)-1:=by rw[C7 w (by omega),bU]
  constructor
  ·intro h
   have hz:(jJ (wd a i) (wd (gd w) i)).toNat=0:=by
    refine Cj fun k=>?_
    rw[Nat.zero_testBit]
    rcases go2 k 64 with hk | hk
    ·rw[Mp ha hb hk,hn,Kd]
     by_cases ef:k<min 64 (eS w-64*i)
     ·rw[decide_eq_true ef];simp
     ·rw[wX (sc h (uR (by decide) (by omega)))];rfl
    ·exact wX (sc (xU (MN _ _)) (uR (by decide:0<2) hk))
   have:=Df (MN (wd a i) (wd (gd w) i))
   omega
  ·intro h
   refine Nat.lt_pow_two_of_testBit _ fun k hk=>?_
   rcases go2 k 64 with ef | ef
   ·have hz:=Mp ha hb ef
    rw[h,hn,Kd,b9 (by omega)]at hz
    have h0:(0:Int).toNat.testBit k=false:=Nat.zero_testBit k
    rw[h0]at hz
    simpa using hz.symm
   ·exact wX (sc (xU ha) (uR (by decide:0<2) ef))
 constructor
 ·intro h i hi
  exact (hf i hi).1 (by simpa using h i (List.mem_range.2 hi))
 ·intro h i hi
  have hi:=fA.1 hi
  rw[decide_eq_true_eq]
  exact (hf i hi).2 (h i hi)
theorem UN(a:List Int)(i:Nat)(σ:Hp):ACalls Tryz.prog 334 [.ai (.int .u64) a,.int .i64 i] σ (aE (.int .u64 (wd a i)) σ):=by
 refine aA Tryz.func334 ?_
 refine aq (fun c=>?_) (fun c=>?_)
 ·have c:(a.length:Int)≤(i:Int):=c
  exact .done ⟨aW (AH (by omega)).symm,rfl⟩
 ·have c:i<a.length:=by have c:¬(a.length:Int)≤(i:Int):=c;omega
  refine aH.mk rfl (cg.mk a[i] (by omega) (get_some c) ?_)
  exact .done ⟨aW (lv a c).symm,rfl⟩
theorem VJ(n:Int)(σ:Hp):ACalls Tryz.prog 210 [.int .i64 n] σ (aE (.int .i64 (eS n)) σ):=by
 refine aA Tryz.func210 ?_
 exact .done ⟨aW (acB n),rfl⟩
theorem abf(n:Int):(IntKind.i64.wrap (IntKind.i64.wrap ((eS n:Nat)+64)-1)).tdiv 64=((eX n:Nat):Int):=by
 have:=Mn n
 rw[IntKind.wrap_i64,IntKind.wrap_i64]
 unfold eX
 rw[Int.tdiv_eq_ediv_of_nonneg (by omega)]
 omega
theorem Zr(n:Int):IntKind.i64.wrap ((eX n:Nat):Int)=((eX n:Nat):Int):=by
 have:=CZ n
 rw[IntKind.wrap_i64];omega
theorem HC(n:Int)(σ:Hp):ACalls Tryz.prog 153 [.int .i64 n] σ (aE (.int .i64 (eX n)) σ):=by
 refine aA Tryz.func153 ?_
 refine aB [] (VJ n _) ?_
 refine aH.mk (by decide) ?_
 exact .done ⟨aW (by rw[abf,Zr]),rfl⟩
theorem VL(g:FuncId)(f:Int→Int→Int)(hg:∀(x y:Int) (σ:Hp),ACalls Tryz.prog g [.int .u64 x,.int .u64 y] σ (aE (.int .u64 (f x y)) σ))(a b:List Int)(σ:Hp)(ha:a.length≤100000)(hb:b.length≤100000):ACalls Tryz.prog 307 [.ai (.int .u64) a,.ai (.int .u64) b,.fn (.func g) [] []] σ (aE (.ai (.int .u64) (fU f a b)) σ):=by
 refine aA Tryz.func307 ?_
 obtain⟨n,hn⟩:∃n,n=max a.length b.length:=⟨_,rfl⟩
 have sE:(if (a.length:Int)<b.length then (b.length:Int) else a.length)=(n:Int):=by split <;> omega
 have oS:(fU f a b).length=n:=by rw[tg,hn]
 refine .wrap 7 _ rfl rfl ?_
 refine cj (S:=Nat×AV×Hp) (fun s=>[(0,.ai (.int .u64) a),(1,.ai (.int .u64) b),(2,.fn (.func g) [] []),(7,.via s.2.1),(13,.int .i64 n),(14,.int .i64 s.1)]) (fun s=>s.2.2++σ) (fun s=>s.1≤n∧Acc 1 s.1 s.2.1 s.2.2 (bB ((fU f a b).take s.1))) (fun s=>n-s.1) (0,.aj,[]) ⟨⟨bK _,.nil⟩,⟨rfl,rfl,rfl,rfl,aW sE,rfl,trivial⟩,rfl⟩ ?_
 rintro⟨k,v,acc⟩ s ⟨bD,mE⟩
 have hk:k≤n:=bD
 have cC:Acc 1 k v acc (bB ((fU f a b).take k)):=mE
 clear bD mE
 refine aq (fun ab=>?_) (fun ay=>?_)
 ·have ab:k<n:=by have ab:(k:Int)<n:=ab;omega
  have he:(fU f a b)[k]'(by omega)=f (wd a k) (wd b k):=by rw[← lv,Da f a b (by omega)]
  refine aB [] (UN a k _) ?_
  refine aB [] (UN b k _) ?_
  refine aB [] (hg _ _ _) ?_
  intro aG
  refine my [_] cC (.ae 0 aG 0 1 _ rfl (cT rfl)) rfl (by omega) (by decide) (by decide) (fun v' bN h'=>?_)
  refine aZ (k+1,v',bN) (by show n-(k+1)<n-k;omega) ⟨ab,?_⟩ ⟨rfl,rfl,rfl,rfl,rfl,bu (by omega),trivial⟩ (.drop 0 1 (aJ rfl))
  show Acc 1 (k+1) v' bN (bB ((fU f a b).take (k+1)))
  rw[fQ (by omega),he,bB,cM]
  exact h'
 ·have ay:k=n:=by have ay:¬(k:Int)<n:=ay;omega
  subst ay
  rw[eZ (by omega)]at cC
  exact xB (s:=.int .u64) (l:=fU f a b) [] cC oS.symm (by rw[rb]) (by decide) (.done ⟨rfl,rfl⟩)
theorem aeH(x y:Int)(σ:Hp):ACalls Tryz.prog 328 [.int .u64 x,.int .u64 y] σ (aE (.int .u64 (mL x y)) σ):=by
 refine aA Tryz.func328 ?_
 exact .done ⟨rfl,rfl⟩
theorem aeU(x y:Int)(σ:Hp):ACalls Tryz.prog 308 [.int .u64 x,.int .u64 y] σ (aE (.int .u64 (jJ x y)) σ):=by
 refine aA Tryz.func308 ?_
 exact .done ⟨rfl,rfl⟩
theorem ag0(a b:List Int)(σ:Hp)(ha:a.length≤100000)(hb:b.length≤100000):ACalls Tryz.prog 300 [.ai (.int .u64) a,.ai (.int .u64) b] σ (aE (.ai (.int .u64) (fU mL a b)) σ):=by
 refine aA Tryz.func300 ?_
 refine aB [] (VL _ _ aeH a b _ ha hb) ?_
 exact .done ⟨rfl,rfl⟩
theorem VC(a b:List Int)(σ:Hp)(ha:a.length≤100000)(hb:b.length≤100000):ACalls Tryz.prog 284 [.ai (.int .u64) a,.ai (.int .u64) b] σ (aE (.ai (.int .u64) (fU jJ a b)) σ):=by
 refine aA Tryz.func284 ?_
 refine aB [] (VL _ _ aeU a b _ ha hb) ?_
 exact .done ⟨rfl,rfl⟩
theorem ah1(n:Nat)(h:n≤100000000):IntKind.i64.wrap ((n:Int).tdiv 64)=((n / 64:Nat):Int):=by
 rw[Int.tdiv_eq_ediv_of_nonneg (by omega),IntKind.wrap_i64];omega
theorem agF(n:Nat):(n:Int).tmod 64=((n % 64:Nat):Int):=by
 rw[Kc (by omega)];omega
theorem agv(k:Nat)(h:k<64):IntKind.u64.wrap (1*2 ^ min ((k:Nat):Int).toNat IntKind.u64.bits)=((2 ^ k:Nat):Int):=by
 have e:min ((k:Nat):Int).toNat IntKind.u64.bits=k:=by show min k 64=k;omega
 rw[e,Int.one_mul,show ((2:Int) ^ k)=((2 ^ k:Nat):Int) by rw[Int.natCast_pow];rfl]
 exact zb (sc (Nat.pow_lt_pow_right (by decide) h) (aM _))
theorem M0{l:List Int}{i:Nat}(h:i<l.length)(x:Int){z:Int}(hz:z=i):kn ⟨.int .u64,1,8,[.int .u64 0]⟩ (bB l) (0+z.toNat*1) (.int .u64 x)=some (bB (l.set i x)):=by
 subst hz
 have e:0+((i:Int)).toNat*1=i:=by omega
 rw[e]
 have h2:Nat.ble (i+1) (bB l).length=true:=Nat.ble_eq_true_of_le (by simp[bB];omega)
 show (match Nat.beq 1 1,Nat.ble (i+1) (bB l).length with | true,true=>some (e8 (bB l) i [.int .u64 x]) | _,_=>none)=_
 rw[h2]
 show some ((bB l).set i (.int .u64 x))=_
 simp[bB,List.map_set]
theorem V9{l:List Int}{i:Nat}(h:i<l.length){z:Int}(hz:z=i):dP ⟨.int .u64,1,8,[.int .u64 0]⟩ (bB l) (0+z.toNat*1)=some (.int .u64 (wd l i)):=by
 subst hz
 have e:0+((i:Int)).toNat*1=i:=by omega
 rw[e]
 show (bB l)[i]?=_
 unfold bB wd
 rw[eU,bc h];rfl
theorem aah(w:Int){n:Nat}(h:n<eS w):jA (gd w) (n+1)=(jA (gd w) n).set (n / 64) (mL (wd (jA (gd w) n) (n / 64)) ((2 ^ (n % 64):Nat):Int)):=by
 have hs:(gd w).length=eX w:=qZ w
 have hl:n<64*(gd w).length:=by rw[hs];unfold eX;omega
 have hb:hasB (gd w) n=true:=by
  unfold hasB
  rw[C7 w (by unfold eX;omega),bU,Kd]
  exact aY (by omega)
 rw[abz hl,ag hb]
theorem ach(w:Int):jA (gd w) (eS w)=gd w:=by
 refine AR (w9 _ _) fun i hi=>?_
 rw[w9]at hi
 rw[AW _ _ hi]
 rw[qZ]at hi
 rw[C7 w hi,bU,r9]
 have:=Cb (min 64 (eS w-64*i))
 omega
theorem Wl(w:Int)(σ:Hp):ACalls Tryz.prog 203 [.int .i64 w] σ (aE (.ai (.int .u64) (gd w)) σ):=by
 refine aA Tryz.func203 ?_
 have eD:=CZ w
 have OG:=Mn w
 refine aB [] (HC w _) ?_
 refine aU ?_
 intro q
 refine aB [] (VJ w _) ?_
 refine cj (S:=Nat) (fun s=>[(3,.ae q 0 (eX w) 1),(9,.int .i64 (eS w)),(10,.int .i64 s)]) (fun s=>(q,bB (jA (gd w) s))::σ) (fun s=>s≤eS w) (fun s=>eS w-s) 0 ⟨bK _,⟨rfl,rfl,rfl,trivial⟩,?_⟩ ?_
 ·show (q,cz [.int .u64 0] (((eX w:Nat):Int)).toNat)::σ=(q,bB (jA (gd w) 0))::σ
  rw[aby,qZ,bU,L3]
 intro n g fY
 have hn:n≤eS w:=fY
 clear fY
 refine aq (fun ab=>?_) (fun ay=>?_)
 ·have ab:n<eS w:=by have ab:(n:Int)<eS w:=ab;omega
  have hi:n / 64<(jA (gd w) n).length:=by rw[w9,qZ];unfold eX;omega
  have yl:n / 64<eX w:=by unfold eX;omega
  have hd:=ah1 n (by omega)
  have hm:=agF n
  refine .sched [] (upto [] 11 0) (by kernel_rfl) ?_
  refine iJ ?_
  refine aK ?_
  refine aT 0 rfl (V9 hi hd) ?_
  have e64:=agv (n % 64) (by omega)
  rw[← hm]at e64
  refine iJ ?_
  refine iJ ?_
  refine aK ?_
  refine cU 0 rfl (M0 hi _ hd) ?_
  refine aZ (n+1) (by show eS w-(n+1)<eS w-n;omega) ab ⟨rfl,rfl,bu (by omega),trivial⟩ (aJ ?_)
  rw[aah w ab,← e64]
  rfl
 ·have ay:n=eS w:=by have ay:¬(n:Int)<eS w:=ay;omega
  subst ay
  rw[ach]
  exact .cI 0 q 0 (eX w) 1 _ (.int .u64) (gd w) rfl (by rw[List.drop_zero,← rb];exact List.take_of_length_le (by simp[bB,qZ])) ⟨qZ w,rfl,by decide⟩ .here (.done ⟨rfl,rfl⟩)
def oJ(a:List Int):Nat:=(a.map fun z=>ue z.toNat).sum
theorem aep(a:List Int):oJ a≤64*a.length:=by
 unfold oJ
 induction a with
 |nil=>simp
 |cons x a ih=>have:=adK x.toNat;simp only[oV,JH,fO];omega
theorem aax(a:List Int){k:Nat}(h:k<a.length):oJ (a.take (k+1))=oJ (a.take k)+ue (a[k]).toNat:=by
 unfold oJ
 rw[List.take_succ_eq_append_getElem h,List.map_append,List.sum_append];simp
theorem aaw{a:List Int}(ha:bA a):oJ a=0↔∀i,i<a.length→wd a i=0:=by
 unfold oJ
 rw[List.sum_eq_zero_iff_forall_eq_nat]
 constructor
 ·intro h i hi
  have h1:=h _ (cY.2 ⟨a[i],cD hi,rfl⟩)
  have:=ZS (xU (ha _ (cD hi))) h1
  have hw:=Df (ha _ (cD hi))
  rw[lv a hi,← hw,this];rfl
 ·intro h x hx
  obtain⟨z,hz,rfl⟩:=cY.1 hx
  obtain⟨i,hi,rfl⟩:=wW.1 hz
  have:=h i hi
  rw[lv a hi]at this
  rw[this];rfl
theorem ah7{a b:Nat}(h:a+b<1000000000):IntKind.i64.wrap ((a:Int)+(b:Int))=((a+b:Nat):Int):=by rw[IntKind.wrap_i64];omega
theorem age(a:List Int)(σ:Hp)(hl:a.length≤100000)(ha:bA a):ACalls Tryz.prog 283 [.ai (.int .u64) a] σ (aE (.int .i64 (oJ a)) σ):=by
 refine aA Tryz.func283 ?_
 refine cj (S:=Nat) (fun s=>[(3,.int .i64 (oJ (a.take s))),(6,.ai (.int .u64) a),(7,.int .i64 a.length),(8,.int .i64 s)]) (fun _=>σ) (fun s=>s≤a.length) (fun s=>a.length-s) 0 ⟨bK _,⟨rfl,rfl,rfl,rfl,trivial⟩,rfl⟩ ?_
 intro k g bD
 have hk:k≤a.length:=bD
 clear bD
 refine aq (fun ab=>?_) (fun ay=>?_)
 ·have ab:k<a.length:=by have ab:(k:Int)<a.length:=ab;omega
  refine aH.mk rfl (cg.mk a[k] (by omega) (get_some ab) ?_)
  refine aB [] (ahf (ha _ (cD ab)) _) ?_
  have h1:=aep (a.take (k+1))
  have h2:=aax a ab
  rw[sb]at h1
  refine aZ (k+1) (by show a.length-(k+1)<a.length-k;omega) ab ⟨aW (by rw[h2];exact ah7 (by omega)),rfl,rfl,bu (by omega),trivial⟩ (.refl _)
 ·have ay:k=a.length:=by have ay:¬(k:Int)<a.length:=ay;omega
  subst ay
  rw[ig]
  exact .done ⟨rfl,rfl⟩
theorem C1(a b:List Int):bA (fU jJ a b):=Mw fun _ _=>MN _ _
theorem aeB(a b:List Int)(σ:Hp)(ha:a.length≤10000)(hb:b.length≤10000):ACalls Tryz.prog 249 [.ai (.int .u64) a,.ai (.int .u64) b] σ (aE (.bool (decide (oJ (fU jJ a b)=0))) σ):=by
 refine aA Tryz.func249 ?_
 refine aB [] (VC a b _ (by omega) (by omega)) ?_
 refine aB [] (age _ _ (by rw[tg];omega) (C1 a b)) ?_
 refine aq (fun c=>?_) (fun c=>?_)
 ·have c:oJ (fU jJ a b)=0:=by have c:((oJ (fU jJ a b):Nat):Int)=0:=c;omega
  exact .done ⟨eb (aY c).symm,rfl⟩
 ·have c:oJ (fU jJ a b)≠0:=by have c:¬((oJ (fU jJ a b):Nat):Int)=0:=c;omega
  exact .done ⟨eb (b9 c).symm,rfl⟩
theorem XK{a:List Int}{w:Int}(mV:bA a)(hl:a.length=eX w):decide (oJ (fU jJ a (gd w))=0)=gq a w:=by
 rw[Bool.eq_iff_iff,decide_eq_true_eq,aaw (C1 _ _),aak mV hl,tg,qZ,hl,Nat.max_self]
 refine⟨fun h i hi=>?_,fun h i hi=>?_⟩
 ·rw[← Da jJ a (gd w) (by rw[hl];omega)];exact h i hi
 ·rw[Da jJ a (gd w) (by rw[hl];omega)];exact h i hi
theorem DC(a:List Int)(w:Int)(σ:Hp)(mV:bA a)(ha:a.length≤10000):ACalls Tryz.prog 199 [.ai (.int .u64) a,.int .i64 w] σ (aE (.bool (gq a w)) σ):=by
 refine aA Tryz.func199 ?_
 refine aB [] (HC w _) ?_
 have eD:=CZ w
 refine aq (fun c=>?_) (fun c=>?_)
 ·have c:a.length=eX w:=by have c:(a.length:Int)=eX w:=c;omega
  refine aB [] (Wl w _) ?_
  refine aB [] (aeB a _ _ ha (by rw[qZ];omega)) ?_
  exact .done ⟨eb (XK mV c),rfl⟩
 ·have c:a.length≠eX w:=by have c:¬(a.length:Int)=eX w:=c;omega
  have hf:gq a w=false:=by unfold gq;rw[b9 c];rfl
  rw[hf]
  exact .done ⟨rfl,rfl⟩
def aQ(n:Int):Int:=(n+32768) % 65536-32768
theorem Az(n:Int): -32768≤aQ n:=by unfold aQ;omega
theorem AA(n:Int):aQ n≤32767:=by unfold aQ;omega
theorem Yz(n:Int):(0≤n∧n.tmod 65536=n % 65536)∨(n<0∧n.tmod 65536 = -((-n) % 65536)):=by
 by_cases h:0≤n
 ·exact .inl ⟨h,Kc h⟩
 ·refine .inr ⟨by omega,?_⟩
  have:=Int.neg_tmod (-n) 65536
  rw[Int.neg_neg,Kc (a:= -n) (by omega)]at this
  exact this
theorem HQ(n:Int)(σ:Hp):ACalls Tryz.prog 335 [.int .i64 n] σ (aE (.int .i64 (aQ n)) σ):=by
 refine aA Tryz.func335 ?_
 have hc:=Yz n
 refine iJ ?_
 refine aq (fun h1=>?_) (fun h1=>?_)
 ·have h1:32767<n.tmod 65536:=h1
  exact .done ⟨aW (by rw[IntKind.wrap_i64];unfold aQ;omega),rfl⟩
 ·have h1:¬(32767<n.tmod 65536):=h1
  refine aq (fun h2=>?_) (fun h2=>?_)
  ·have h2:n.tmod 65536 < -32768:=h2
   exact .done ⟨aW (by rw[IntKind.wrap_i64];unfold aQ;omega),rfl⟩
  ·have h2:¬(n.tmod 65536 < -32768):=h2
   exact .done ⟨aW (by unfold aQ;omega),rfl⟩
abbrev nC(x y:Int):List AV:=[.int .i64 x,.int .i64 y]
theorem EC(a b:Int)(σ:Hp):ACalls Tryz.prog 309 [.int .i64 a,.int .i64 b] σ (aE (.agg (nC (aQ a) (aQ b))) σ):=by
 refine aA Tryz.func309 ?_
 intro b1
 refine aB [] (HQ _ _) ?_
 refine aB [] (HQ _ _) ?_
 refine an 0 ?_
 refine aa 0 ?_
 exact .drop 0 1 (.done ⟨rfl,rfl⟩)
theorem ai1(x y:Int)(σ:Hp):ACalls Tryz.prog 286 [.agg (nC x y)] σ (aE (.bool (decide (x=aQ x)&&decide (y=aQ y))) σ):=by
 refine aA Tryz.func286 ?_
 intro aG
 refine .quiet (by kernel_rfl) ?_
 refine aa 0 ?_
 refine aa 0 ?_
 refine aa 0 ?_
 refine aI [] (EC _ _ _) ?_
 refine EqAt.mk (by kernel_rfl) (by kernel_rfl) ?_
 have e:fH (tT (nC x y) (nC (aQ x) (aQ y)))=(decide (x=aQ x)&&decide (y=aQ y)):=by
  show (decide (x=aQ x)&&(decide (y=aQ y)&&true))=_
  rw[JG]
 rw[← e]
 refine eG (fun c=>?_) (fun c=>?_)
 ·have c:fH (tT (nC x y) (nC (aQ x) (aQ y)))=true:=c
  rw[c]
  exact .drop 0 1 (.done ⟨rfl,rfl⟩)
 ·have c:fH (tT (nC x y) (nC (aQ x) (aQ y)))=false:=c
  rw[c]
  exact .drop 0 1 (.done ⟨rfl,rfl⟩)
theorem yY(x y:Int)(σ:Hp):ACalls Tryz.prog 364 [.agg (nC x y)] σ (aE (.fR (aQ x) (aQ y)) σ):=by
 have h1:=Az x
 have h2:=AA x
 have h3:=Az y
 have h4:=AA y
 refine aA Tryz.func364 ?_
 intro aG
 refine aa 0 ?_
 refine aa 0 ?_
 refine aB [] (EC _ _ _) ?_
 refine an 0 ?_
 refine aa 0 ?_
 refine .mk (by unfold hG;omega) ?_
 refine aa 0 ?_
 refine .mk (by unfold hG;omega) ?_
 exact .drop 0 1 (.done ⟨rfl,rfl⟩)
theorem Vi{x:Int}(h:hG x):IntKind.i64.min≤x∧x≤IntKind.i64.max:=by
 unfold hG at h
 have e1:IntKind.i64.min = -9223372036854775808:=by decide
 have e2:IntKind.i64.max=9223372036854775807:=by decide
 rw[e1,e2];omega
theorem HR(x y:Int)(σ:Hp)(hx:hG x)(hy:hG y):ACalls Tryz.prog 363 [.fR x y] σ (aE (.agg (nC (aQ x) (aQ y))) σ):=by
 refine aA Tryz.func363 ?_
 intro aG
 refine .mk (Vi hx) ?_
 refine .mk (Vi hy) ?_
 refine aB [] (EC _ _ _) ?_
 refine an 0 ?_
 refine aa 0 ?_
 exact .drop 0 1 (.done ⟨rfl,rfl⟩)
theorem GL{a b:Int}(ha : -32768≤a∧a≤32768)(hb : -32768≤b∧b≤32768): -1073741824≤a*b∧a*b≤1073741824:=by
 have h1:a.natAbs*b.natAbs≤32768*32768:=jm (by omega) (by omega)
 rw[← JM]at h1
 omega
theorem HN(a b c d:Int):(-32768≤aQ a∧aQ a≤32767)∧(-32768≤aQ b∧aQ b≤32767)∧(-32768≤aQ c∧aQ c≤32767)∧-32768≤aQ d∧aQ d≤32767:=
 ⟨⟨Az a,AA a⟩,⟨Az b,AA b⟩,⟨Az c,AA c⟩,Az d,AA d⟩
theorem aht(a b c d:Int):(-1073741824≤aQ a*aQ c∧aQ a*aQ c≤1073741824)∧(-1073741824≤aQ b*aQ d∧aQ b*aQ d≤1073741824)∧(-1073741824≤aQ a*aQ d∧aQ a*aQ d≤1073741824)∧-1073741824≤aQ b*aQ c∧aQ b*aQ c≤1073741824:=by
 have h:=HN a b c d
 exact⟨GL (by omega) (by omega),GL (by omega) (by omega),GL (by omega) (by omega),GL (by omega) (by omega)⟩
theorem agY(a b c d:Int)(σ:Hp):ACalls Tryz.prog 356 [.agg (nC a b),.agg (nC c d)] σ (aE (.agg (nC (aQ (aQ a+aQ c)) (aQ (aQ b+aQ d)))) σ):=by
 have hF:=HN a b c d
 refine aA Tryz.func356 ?_
 intro aG
 intro eV
 intro uW
 refine .sched [1,3,5] (upto [1,3,5] 7 0) (by kernel_rfl) ?_
 refine aa 2 ?_
 refine aI [] (yY _ _ _) ?_
 refine aa 1 ?_
 refine aI [] (yY _ _ _) ?_
 refine .mk (by unfold hG;omega) ?_
 refine aI [] (HR _ _ _ (by unfold hG;omega) (by unfold hG;omega)) ?_
 refine an 0 ?_
 refine aa 0 ?_
 exact .drop 0 3 (.done ⟨rfl,rfl⟩)
theorem agW(a b c d:Int)(σ:Hp):ACalls Tryz.prog 357 [.agg (nC a b),.agg (nC c d)] σ (aE (.agg (nC (aQ (aQ a-aQ c)) (aQ (aQ b-aQ d)))) σ):=by
 have hF:=HN a b c d
 refine aA Tryz.func357 ?_
 intro aG
 intro eV
 intro uW
 refine .sched [1,3,5] (upto [1,3,5] 7 0) (by kernel_rfl) ?_
 refine aa 2 ?_
 refine aI [] (yY _ _ _) ?_
 refine aa 1 ?_
 refine aI [] (yY _ _ _) ?_
 refine .mk (by unfold hG;omega) ?_
 refine aI [] (HR _ _ _ (by unfold hG;omega) (by unfold hG;omega)) ?_
 refine an 0 ?_
 refine aa 0 ?_
 exact .drop 0 3 (.done ⟨rfl,rfl⟩)
theorem agX(a b c d:Int)(σ:Hp):ACalls Tryz.prog 358 [.agg (nC a b),.agg (nC c d)] σ (aE (.agg (nC (aQ (aQ a*aQ c-aQ b*aQ d)) (aQ (aQ a*aQ d+aQ b*aQ c)))) σ):=by
 have hF:=aht a b c d
 refine aA Tryz.func358 ?_
 intro aG
 intro eV
 intro uW
 refine .sched [1,3,5] (upto [1,3,5] 7 0) (by kernel_rfl) ?_
 refine aa 2 ?_
 refine aI [] (yY _ _ _) ?_
 refine aa 1 ?_
 refine aI [] (yY _ _ _) ?_
 refine .mk (by unfold hG;omega) ?_
 refine aI [] (HR _ _ _ (by unfold hG;omega) (by unfold hG;omega)) ?_
 refine an 0 ?_
 refine aa 0 ?_
 exact .drop 0 3 (.done ⟨rfl,rfl⟩)
theorem afO(a b:Int)(σ:Hp):ACalls Tryz.prog 359 [.agg (nC a b)] σ (aE (.agg (nC (aQ (aQ a)) (aQ (-aQ b)))) σ):=by
 have hF:=HN a b 0 0
 refine aA Tryz.func359 ?_
 intro aG
 intro eV
 refine aa 1 ?_
 refine aB [] (yY _ _ _) ?_
 refine aB [] (HR _ _ _ (by unfold hG;omega) (by unfold hG;omega)) ?_
 refine an 0 ?_
 refine aa 0 ?_
 exact .drop 0 2 (.done ⟨rfl,rfl⟩)
def qI(op a b c d:Int):Option (Int×Int):=
 if op=0 then some (aQ a,aQ b) else
 if op=1 then some (aQ (aQ a+aQ c),aQ (aQ b+aQ d)) else
 if op=2 then some (aQ (aQ a-aQ c),aQ (aQ b-aQ d)) else
 if op=3 then some (aQ (aQ a*aQ c-aQ b*aQ d),aQ (aQ a*aQ d+aQ b*aQ c)) else
 if op=4 then some (aQ (aQ a),aQ (-aQ b)) else none
def zO(r:Option (Int×Int))(ok err:AV):AV:=match r with | some (x,y)=>.tup [.agg (nC x y),ok] | none=>.tup [.agg (nC 0 0),err]
theorem NV(op a b c d:Int)(σ:Hp):ACalls Tryz.prog 344 [.int .i64 op,.agg (nC a b),.agg (nC c d)] σ (aE (zO (qI op a b c d) (.int .i64 0) (.int .i64 10)) σ):=by
 refine aA Tryz.func344 ?_
 intro aG
 intro eV
 intro uW
 intro bl4
 refine aq (fun c5=>?_) (fun c5=>?_)
 ·have c5:op=0:=c5
  refine aa 3 ?_
  refine aa 3 ?_
  refine aB [] (EC _ _ _) ?_
  refine an 0 ?_
  refine .fwd 1 ?_
  refine aa 0 ?_
  refine an 1 ?_
  refine aa 1 ?_
  exact .drop 0 4 (.done ⟨(by simp[qI,zO, *];rfl),rfl⟩)
 ·have c5:¬(op=0):=c5
  refine aq (fun c6=>?_) (fun c6=>?_)
  ·have c6:op=1:=c6
   refine aa 3 ?_
   refine aa 2 ?_
   refine aB [] (agY _ _ _ _ _) ?_
   refine an 0 ?_
   refine .fwd 1 ?_
   refine aa 0 ?_
   refine an 1 ?_
   refine aa 1 ?_
   exact .drop 0 4 (.done ⟨(by simp[qI,zO, *];rfl),rfl⟩)
  ·have c6:¬(op=1):=c6
   refine aq (fun c7=>?_) (fun c7=>?_)
   ·have c7:op=2:=c7
    refine aa 3 ?_
    refine aa 2 ?_
    refine aB [] (agW _ _ _ _ _) ?_
    refine an 0 ?_
    refine .fwd 1 ?_
    refine aa 0 ?_
    refine an 1 ?_
    refine aa 1 ?_
    exact .drop 0 4 (.done ⟨(by simp[qI,zO, *];rfl),rfl⟩)
   ·have c7:¬(op=2):=c7
    refine aq (fun c8=>?_) (fun c8=>?_)
    ·have c8:op=3:=c8
     refine aa 3 ?_
     refine aa 2 ?_
     refine aB [] (agX _ _ _ _ _) ?_
     refine an 0 ?_
     refine .fwd 1 ?_
     refine aa 0 ?_
     refine an 1 ?_
     refine aa 1 ?_
     exact .drop 0 4 (.done ⟨(by simp[qI,zO, *];rfl),rfl⟩)
    ·have c8:¬(op=3):=c8
     refine aq (fun c9=>?_) (fun c9=>?_)
     ·have c9:op=4:=c9
      refine aa 3 ?_
      refine aB [] (afO _ _ _) ?_
      refine an 0 ?_
      refine .fwd 1 ?_
      refine aa 0 ?_
      refine an 1 ?_
      refine aa 1 ?_
      exact .drop 0 4 (.done ⟨(by simp[qI,zO, *];rfl),rfl⟩)
     ·have c9:¬(op=4):=c9
      refine an 1 ?_
      refine aa 1 ?_
      exact .drop 0 4 (.done ⟨(by simp[qI,zO, *];rfl),rfl⟩)
def tL(x y:Int):Int:=aQ x % 65536+65536*(aQ y % 65536)
theorem G0(x y:Int):0≤tL x y:=by unfold tL;omega
theorem Li(x y:Int):tL x y<4294967296:=by unfold tL;omega
theorem Wp(n:Int):IntKind.u16.wrap n=n % 65536:=by simp[IntKind.wrap,IntKind.bits,IntKind.signed]
theorem Vd(k:Nat){a b:Nat}(ha:a<2 ^ k)(hb:2 ^ k*b<18446744073709551616)(hk:2 ^ k<18446744073709551616):bits .or .u64 (a:Int) ((2 ^ k*b:Nat):Int)=((2 ^ k*b+a:Nat):Int):=by
 rw[tk (by omega) hb,Nat.or_comm,Pk ha b]
theorem ade(x y:Int):bits BinOp.or IntKind.u64 (IntKind.u64.wrap (IntKind.u16.wrap (aQ x))) (IntKind.u64.wrap (IntKind.u64.wrap (IntKind.u16.wrap (aQ y))*2 ^ min (Int.toNat 16) IntKind.u64.bits))=tL x y:=by
 have e:(2:Int) ^ min (Int.toNat 16) IntKind.u64.bits=65536:=by decide
 rw[e,Wp,Wp,IntKind.wrap_u64,IntKind.wrap_u64,IntKind.wrap_u64]
 unfold tL
 generalize aQ x=p
 generalize aQ y=q
 have h:=Vd 16 (a:=(p % 65536).toNat) (b:=(q % 65536).toNat) (by omega) (by omega) (by decide)
 have e1:(((p % 65536).toNat:Nat):Int)=p % 65536 % 18446744073709551616:=by omega
 have e2:((2 ^ 16*(q % 65536).toNat:Nat):Int)=q % 65536 % 18446744073709551616*65536 % 18446744073709551616:=by omega
 rw[e1,e2]at h
 rw[h];omega
theorem afN(x y:Int)(σ:Hp):ACalls Tryz.prog 342 [.agg (nC x y)] σ (aE (.int .u64 (tL x y)) σ):=by
 refine aA Tryz.func342 ?_
 intro aG
 refine .quiet (by kernel_rfl) ?_
 refine aa 0 ?_
 refine aI [] (HQ _ _) ?_
 refine aa 0 ?_
 refine aI [] (HQ _ _) ?_
 refine iJ ?_
 exact .drop 0 1 (.done ⟨aW (ade x y),rfl⟩)
def oN(x y:Int):Int:=2+4*tL x y
theorem Ie(x y:Int)(σ:Hp):ACalls Tryz.prog 331 [.agg (nC x y)] σ (aE (.int .u64 (oN x y)) σ):=by
 refine aA Tryz.func331 ?_
 intro aG
 refine aa 0 ?_
 refine aB [] (afN _ _ _) ?_
 refine iJ ?_
 have e:bits BinOp.or IntKind.u64 2 (IntKind.u64.wrap (tL x y*2 ^ min (Int.toNat 2) IntKind.u64.bits))=oN x y:=by
  have e:(2:Int) ^ min (Int.toNat 2) IntKind.u64.bits=4:=by decide
  have h1:=G0 x y
  have h2:=Li x y
  rw[e,IntKind.wrap_u64]
  unfold oN
  generalize tL x y=p at h1 h2 ⊢
  have h:=Vd 2 (a:=2) (b:=p.toNat) (by decide) (by omega) (by decide)
  have e2:((2 ^ 2*p.toNat:Nat):Int)=p*4 % 18446744073709551616:=by omega
  rw[e2]at h
  exact h.trans (by omega)
 exact .drop 0 1 (.done ⟨aW e,rfl⟩)
def px(w:Int):Int:=if iG w then aQ (w / 4 % 65536) else 0
def py(w:Int):Int:=if iG w then aQ (w / 4 / 65536) else 0
theorem ace(w:Int)(σ:Hp)(h:bM w):ACalls Tryz.prog 285 [.int .u64 w] σ (aE (if w<4294967296 then .tup [.agg (nC (aQ (w % 65536)) (aQ (w / 65536))),.bool true] else .tup [.agg (nC 0 0),.bool false]) σ):=by
 have e:=Dh (k:=32) (m:=32) (w:=w) (by decide)
 have e16:w.fdiv (2 ^ min (Int.toNat 16) IntKind.u64.bits)=w / 65536:=Dh (k:=16) (m:=16) (w:=w) (by decide)
 have ea:bits .and .u64 w 65535=w % 65536:=by
  show IntKind.u64.wrap ((BitVec.ofInt 64 w &&& BitVec.ofInt 64 65535).toNat:Int)=_
  have h3:(BitVec.ofInt 64 65535:BitVec 64).toNat=2 ^ 16-1:=by decide
  rw[BitVec.toNat_and,h3,Po,BitVec.toNat_ofInt,IntKind.wrap_u64]
  omega
 have h1:=h.1
 have h2:=h.2
 refine aA Tryz.func285 ?_
 intro b1
 refine iJ ?_
 refine eG (fun h2=>?_) (fun h2=>?_)
 ·have h2:¬(w.fdiv (2 ^ min (Int.toNat 32) IntKind.u64.bits)=0):=by simpa using h2
  have hw:¬(w<4294967296):=fun h=>h2 (by rw[show w.fdiv (2 ^ min (Int.toNat 32) IntKind.u64.bits)=w / 2 ^ 32 from e];omega)
  refine an 0 ?_
  refine aa 0 ?_
  rw[ah hw]
  exact .drop 0 1 (.done ⟨rfl,rfl⟩)
 ·have h2:w.fdiv (2 ^ min (Int.toNat 32) IntKind.u64.bits)=0:=by simpa using h2
  have hw:w<4294967296:=by rw[show w.fdiv (2 ^ min (Int.toNat 32) IntKind.u64.bits)=w / 2 ^ 32 from e]at h2;omega
  refine iJ ?_
  refine aB [] (EC _ _ _) ?_
  refine an 0 ?_
  refine aa 0 ?_
  rw[ag hw]
  have x1:IntKind.i64.wrap (bits .and .u64 w 65535)=w % 65536:=by rw[ea,IntKind.wrap_i64];omega
  have x2:IntKind.i64.wrap (w.fdiv (2 ^ min (Int.toNat 16) IntKind.u64.bits))=w / 65536:=by rw[e16,IntKind.wrap_i64];omega
  rw[← x1,← x2]
  exact .drop 0 1 (.done ⟨rfl,rfl⟩)
theorem Bf(w:Int)(σ:Hp)(h:bM w):ACalls Tryz.prog 251 [.int .u64 w] σ (aE (.tup [.agg (nC (px w) (py w)),.bool (iG w)]) σ):=by
 have e:=Dh (k:=2) (m:=2) (w:=w) (by decide)
 have h0:=h.1
 have O7:=h.2
 refine aA Tryz.func251 ?_
 intro b1
 refine eG (fun h2=>?_) (fun h2=>?_)
 ·have h2:¬(bits BinOp.and IntKind.u64 w 3=2):=by simpa using h2
  rw[Ij]at h2
  have hn:iG w=false:=by simp[iG,h2]
  refine an 0 ?_
  refine aa 0 ?_
  unfold px py
  rw[hn]
  exact .drop 0 1 (.done ⟨rfl,rfl⟩)
 ·have h2:bits BinOp.and IntKind.u64 w 3=2:=by simpa using h2
  rw[Ij]at h2
  refine iJ ?_
  have e':w.fdiv (2 ^ min (Int.toNat 2) IntKind.u64.bits)=w / 4:=e
  refine aB [] (ace _ _ ⟨by rw[e'];omega,by rw[e'];omega⟩) ?_
  unfold px py
  by_cases hw:w<17179869184
  ·have hn:iG w=true:=by simp[iG,h2];omega
   rw[ag (show w.fdiv (2 ^ min (Int.toNat 2) IntKind.u64.bits)<4294967296 by rw[e'];omega),hn]
   refine an 0 ?_
   refine aa 0 ?_
   rw[e']
   exact .drop 0 1 (.done ⟨rfl,rfl⟩)
  ·have hn:iG w=false:=by simp[iG,h2];omega
   rw[ah (show ¬w.fdiv (2 ^ min (Int.toNat 2) IntKind.u64.bits)<4294967296 by rw[e'];omega),hn]
   refine an 0 ?_
   refine aa 0 ?_
   exact .drop 0 1 (.done ⟨rfl,rfl⟩)
theorem dh{n:Int}(h : -4611686018427387904≤n∧n≤4611686018427387904):IntKind.i64.wrap n=n:=by rw[IntKind.wrap_i64];omega
def nj(l:List Int):Int:=if (l.any fun w=>decide (bR w=0)) then 0 else if (l.any fun w=>decide (bR w=1)) then 1 else 2
theorem X7(l:List Int)(w:Int)(h:(l.any fun w=>decide (bR w=0))=false):nj (l++[w])=if bR w=0 then 0 else if bR w=1 then 1 else nj l:=by
 unfold nj
 rw[gu1,gu1,h]
 by_cases h0:bR w=0
 ·simp[h0]
 ·by_cases h1:bR w=1
  ·simp[h1]
  ·simp[h0,h1]
theorem X6(l:List Int){w:Int}(hm:w∈l)(h:bR w=0):nj l=0:=by
 unfold nj
 rw[ag]
 exact nT.2 ⟨w,hm,aY h⟩
theorem MQ(l:List Int)(σ:Hp)(hl:l.length≤100000):ACalls Tryz.prog 343 [.ai (.int .u64) l] σ (aE (.int .u64 (nj l)) σ):=by
 refine aA Tryz.func343 ?_
 refine cj (S:=Nat) (fun s=>[(3,.int .u64 (nj (l.take s))),(6,.ai (.int .u64) l),(7,.int .i64 l.length),(8,.int .i64 s)]) (fun _=>σ) (fun s=>s≤l.length∧((l.take s).any fun w=>decide (bR w=0))=false) (fun s=>l.length-s) 0 ⟨⟨bK _,rfl⟩,⟨rfl,rfl,rfl,rfl,trivial⟩,rfl⟩ ?_
 rintro k g ⟨bD,iP⟩
 have hk:k≤l.length:=bD
 have hz:((l.take k).any fun w=>decide (bR w=0))=false:=iP
 clear bD iP
 refine aq (fun ab=>?_) (fun ay=>?_)
 ·have ab:k<l.length:=by have ab:(k:Int)<l.length:=ab;omega
  have hs:=X7 (l.take k) l[k] hz
  rw[← fQ ab]at hs
  have gh:((l.take (k+1)).any fun w=>decide (bR w=0))=decide (bR l[k]=0):=by
   rw[List.take_succ_eq_append_getElem ab,List.any_append,hz];simp
  refine aH.mk rfl (cg.mk l[k] (by omega) (get_some ab) ?_)
  refine aB [] (Nq l[k] _) ?_
  refine aq (fun c1=>?_) (fun c1=>?_)
  ·have c1:bR l[k]=0:=c1
   refine .fwd 1 ?_
   rw[X6 l (cD ab) c1]
   exact .done ⟨rfl,rfl⟩
  ·have c1:¬(bR l[k]=0):=c1
   refine aq (fun c2=>?_) (fun c2=>?_)
   ·have c2:bR l[k]=1:=c2
    refine aZ (k+1) (by show l.length-(k+1)<l.length-k;omega) ⟨ab,by rw[gh];exact b9 c1⟩ ⟨?_,rfl,rfl,bu (by omega),trivial⟩ (.refl _)
    rw[hs,ah c1,ag c2]
    rfl
   ·have c2:¬(bR l[k]=1):=c2
    refine aZ (k+1) (by show l.length-(k+1)<l.length-k;omega) ⟨ab,by rw[gh];exact b9 c1⟩ ⟨?_,rfl,rfl,bu (by omega),trivial⟩ (.refl _)
    rw[hs,ah c1,ah c2]
    rfl
 ·have ay:k=l.length:=by have ay:¬(k:Int)<l.length:=ay;omega
  subst ay
  rw[ig]
  exact .done ⟨rfl,rfl⟩
theorem aft{op:Int}(h:op=0∨op=4)(a b c d c2 d2:Int):qI op a b c d=qI op a b c2 d2:=by
 rcases h with rfl | rfl <;> rfl
def pH(op a b:Int):Int:=match qI op (px a) (py a) (px b) (py b) with | some (x,y)=>oN x y | none=>1
def pJ(op a b:Int):Int:=if bR a=0∨bR b=0 then 0 else if bR a=1∨bR b=1 then 1 else pH op a b
def mM(op a b:Int):Int:=if op=0∨op=4 then pJ op a 2 else pJ op a b
theorem afA(x y:Int):2≤oN x y:=by have:=G0 x y;unfold oN;omega
theorem afz(x y:Int):iG (oN x y)=true:=by
 have h1:=G0 x y
 have h2:=Li x y
 unfold iG oN;simp;omega
theorem norm_num{w:Int}(h:iG w=true):bR w=w:=by
 have:=SR h
 unfold bR
 rw[ah this.1,ah this.2,ag h]
theorem adA{op:Int}(h:op=0∨op=4)(a b c:Int):pH op a b=pH op a c:=by
 unfold pH
 rw[aft h (px a) (py a) (px b) (py b) (px c) (py c)]
theorem Lx:bR 2=2:=by decide
theorem Gr{op:Int}(a b:Int)(h:op=0∨op=4):mM op a b=if nj [a]=2 then pH op a b else nj [a]:=by
 unfold mM pJ nj
 rw[ag h,Lx,adA h a b 2]
 by_cases h0:bR a=0
 ·simp[h0]
 ·by_cases h1:bR a=1
  ·simp[h1]
  ·simp[h0,h1]
theorem QM{op:Int}(a b:Int)(h:¬(op=0∨op=4)):mM op a b=if nj [a,b]=2 then pH op a b else nj [a,b]:=by
 unfold mM pJ nj
 rw[ah h]
 by_cases h0:bR a=0
 ·simp[h0]
 ·by_cases h1:bR a=1
  ·by_cases g0:bR b=0
   ·simp[g0]
   ·simp[h1,g0]
  ·by_cases g0:bR b=0
   ·simp[g0]
   ·by_cases g1:bR b=1
    ·simp[h0,g1]
    ·simp[h0,h1,g0,g1]
theorem aiv(op a b:Int)(σ:Hp)(ha:bM a)(hb:bM b):ACalls Tryz.prog 332 [.int .i64 op,.int .u64 a,.int .u64 b] σ (aE (.int .u64 (mM op a b)) σ):=by
 refine aA Tryz.func332 ?_
 intro aG
 refine .cI (args':=[.ai (.int .u64) [a,b]]) 0 aG 0 2 1 _ (.int .u64) [a,b] rfl rfl ⟨rfl,rfl,by decide⟩ (eH .here Ds) (aB [] (MQ [a,b] _ (by show 2≤100000;omega)) ?_)
 refine aq (fun c1=>?_) (fun c1=>?_)
 ·have c1:op=0:=c1
  intro eV
  refine .cI (args':=[.ai (.int .u64) [a]]) 0 eV 0 1 1 _ (.int .u64) [a] rfl rfl ⟨rfl,rfl,by decide⟩ (eH .here Ds) (aB [] (MQ [a] _ (by show 1≤100000;omega)) ?_)
  generalize hL:nj [a]=L
  refine eG (fun c5=>?_) (fun c5=>?_)
  ·have c5:¬(L=2):=by simpa using c5
   rw[Gr a b (.inl c1),ah (by rw[hL];exact c5),hL]
   exact .done ⟨rfl,rfl⟩
  ·have c5:L=2:=by simpa using c5
   rw[Gr a b (.inl c1),ag (by rw[hL];exact c5)]
   refine aB [] (Bf a _ ha) ?_
   intro p1
   refine an 0 ?_
   refine aB [] (Bf b _ hb) ?_
   intro p2
   refine an 0 ?_
   refine aa 1 ?_
   refine aa 0 ?_
   refine aB [] (NV op _ _ _ _ _) ?_
   unfold pH
   cases hr:qI op (px a) (py a) (px b) (py b) with
   |none=>
    intro p3
    refine an 0 ?_
    exact .drop 0 3 (.done ⟨rfl,rfl⟩)
   |some xy=>
    obtain⟨x,y⟩:=xy
    intro p3
    refine an 0 ?_
    refine aa 0 ?_
    refine aB [] (Ie x y _) ?_
    exact .drop 0 3 (.done ⟨rfl,rfl⟩)
 ·have c1:¬(op=0):=c1
  refine aq (fun c3=>?_) (fun c3=>?_)
  ·have c3:op=4:=c3
   intro bl4
   refine .cI (args':=[.ai (.int .u64) [a]]) 0 bl4 0 1 1 _ (.int .u64) [a] rfl rfl ⟨rfl,rfl,by decide⟩ (eH .here Ds) (aB [] (MQ [a] _ (by show 1≤100000;omega)) ?_)
   generalize hL:nj [a]=L
   refine eG (fun c5=>?_) (fun c5=>?_)
   ·have c5:¬(L=2):=by simpa using c5
    rw[Gr a b (.inr c3),ah (by rw[hL];exact c5),hL]
    exact .done ⟨rfl,rfl⟩
   ·have c5:L=2:=by simpa using c5
    rw[Gr a b (.inr c3),ag (by rw[hL];exact c5)]
    refine aB [] (Bf a _ ha) ?_
    intro p1
    refine an 0 ?_
    refine aB [] (Bf b _ hb) ?_
    intro p2
    refine an 0 ?_
    refine aa 1 ?_
    refine aa 0 ?_
    refine aB [] (NV op _ _ _ _ _) ?_
    unfold pH
    cases hr:qI op (px a) (py a) (px b) (py b) with
    |none=>
     intro p3
     refine an 0 ?_
     exact .drop 0 3 (.done ⟨rfl,rfl⟩)
    |some xy=>
     obtain⟨x,y⟩:=xy
     intro p3
     refine an 0 ?_
     refine aa 0 ?_
     refine aB [] (Ie x y _) ?_
     exact .drop 0 3 (.done ⟨rfl,rfl⟩)
  ·have c3:¬(op=4):=c3
   generalize hL:nj [a,b]=L
   refine eG (fun c5=>?_) (fun c5=>?_)
   ·have c5:¬(L=2):=by simpa using c5
    rw[QM a b (fun h=>h.elim c1 c3),ah (by rw[hL];exact c5),hL]
    exact .done ⟨rfl,rfl⟩
   ·have c5:L=2:=by simpa using c5
    rw[QM a b (fun h=>h.elim c1 c3),ag (by rw[hL];exact c5)]
    refine aB [] (Bf a _ ha) ?_
    intro p1
    refine an 0 ?_
    refine aB [] (Bf b _ hb) ?_
    intro p2
    refine an 0 ?_
    refine aa 1 ?_
    refine aa 0 ?_
    refine aB [] (NV op _ _ _ _ _) ?_
    unfold pH
    cases hr:qI op (px a) (py a) (px b) (py b) with
    |none=>
     intro p3
     refine an 0 ?_
     exact .drop 0 3 (.done ⟨rfl,rfl⟩)
    |some xy=>
     obtain⟨x,y⟩:=xy
     intro p3
     refine an 0 ?_
     refine aa 0 ?_
     refine aB [] (Ie x y _) ?_
     exact .drop 0 3 (.done ⟨rfl,rfl⟩)
theorem aeV(g:Nat)(cap:List AV)(l:List (Sh.T (.int .u64)))(p:Sh.T (.int .u64)→Bool)(σ:Hp)(hl:l.length≤1000000)(hg:∀(i:Nat) (hi:i<l.length),ACalls Tryz.prog g (.int .u64 l[i]::cap) σ (aE (.bool (p l[i])) σ)):ACalls Tryz.prog 250 [.ai (.int .u64) l,.fn (.func g) [] cap] σ (fun r σ'=>∃n:Int,r=.int .i64 n∧σ'=σ∧decide (0≤n)=l.any p):=by
 refine aA Tryz.func250 ?_
 refine cj (S:=Nat) (fun s=>[(0,.ai (.int .u64) l),(1,.fn (.func g) [] cap),(7,.int .i64 l.length),(8,.int .i64 s)]) (fun _=>σ) (fun s=>s≤l.length∧(l.take s).any p=false) (fun s=>l.length-s) 0 ⟨⟨bK _,rfl⟩,⟨rfl,rfl,rfl,rfl,trivial⟩,rfl⟩ ?_
 rintro k t ⟨bD,fY⟩
 have hk:k≤l.length:=bD
 have hn:(l.take k).any p=false:=fY
 clear bD fY
 refine aq (fun ab=>?_) (fun ay=>?_)
 ·have ab:k<l.length:=by have ab:(k:Int)<l.length:=ab;omega
  have hs:=vr ab p
  rw[hn,qS]at hs
  refine aH.mk rfl (cg.mk l[k] (by omega) (get_some ab) ?_)
  refine fM [] (hg k ab) (fun c=>?_) (fun c=>?_)
  ·have hp:l.any p=true:=nT.2 ⟨l[k],cD ab,c⟩
   exact .done ⟨_,rfl,rfl,by rw[hp];exact aY (by omega)⟩
  ·exact aZ (k+1) (by show l.length-(k+1)<l.length-k;omega) ⟨ab,hs.trans c⟩ ⟨rfl,rfl,rfl,bu (by omega),trivial⟩ (.refl _)
 ·have ay:k=l.length:=by have ay:¬(k:Int)<l.length:=ay;omega
  subst ay
  rw[ig]at hn
  exact .done ⟨_,rfl,rfl,by rw[hn];rfl⟩
theorem Zm(g:Nat)(cap:List AV)(l:List (Sh.T (.int .u64)))(p:Sh.T (.int .u64)→Bool)(σ:Hp)(hl:l.length≤1000000)(hg:∀(i:Nat) (hi:i<l.length),ACalls Tryz.prog g (.int .u64 l[i]::cap) σ (aE (.bool (p l[i])) σ)):ACalls Tryz.prog 200 [.ai (.int .u64) l,.fn (.func g) [] cap] σ (aE (.bool (l.any p)) σ):=by
 refine aA Tryz.func200 ?_
 refine .mk [] _ (aeV g cap l p _ hl hg) ?_
 rintro _ _ ⟨n,rfl,rfl,hn⟩
 rw[← hn]
 refine aq (fun c=>?_) (fun c=>?_)
 ·have c:0≤n:=c
  rw[aY c]
  exact .done ⟨rfl,rfl⟩
 ·have c:¬0≤n:=c
  rw[b9 c]
  exact .done ⟨rfl,rfl⟩
abbrev agC:Sh:=.field (.int .i64) (.field (.int .i64) .nil)
abbrev VT:Sh:=.field (.int .i64) (.field agC .nil)
abbrev jL:Sh:=.field (.int .i64) (.field (.int .i64) (.field VT (.field VT .nil)))
abbrev aix:Type:=Int×Int×Unit
abbrev pR:Type:=Int×aix×Unit
abbrev de:Type:=Int×Int×pR×pR×Unit
abbrev Iu(r:pR):List AV:=[.int .i64 r.1,.int .i64 r.2.1.1,.int .i64 r.2.1.2.1]
abbrev Wb(c:de):List AV:=[.int .i64 c.1,.int .i64 c.2.1,.int .i64 c.2.2.1.1,.int .i64 c.2.2.1.2.1.1,.int .i64 c.2.2.1.2.1.2.1,.int .i64 c.2.2.2.1.1,.int .i64 c.2.2.2.1.2.1.1,.int .i64 c.2.2.2.1.2.1.2.1]
def Ig(c:de):AV:=.agg (Wb c)
theorem aeY(g:Nat)(cap:List AV)(l:List (Sh.T jL))(p:Sh.T jL→Bool)(σ:Hp)(hl:l.length≤1000000)(hg:∀(i:Nat) (hi:i<l.length),ACalls Tryz.prog g (Ig l[i]::cap) σ (aE (.bool (p l[i])) σ)):ACalls Tryz.prog 253 [.ai jL l,.fn (.func g) [] cap] σ (fun r σ'=>∃n:Int,r=.int .i64 n∧σ'=σ∧decide (0≤n)=l.any p):=by
 refine aA Tryz.func253 ?_
 refine cj (S:=Nat) (fun s=>[(0,.ai jL l),(1,.fn (.func g) [] cap),(7,.int .i64 l.length),(8,.int .i64 s)]) (fun _=>σ) (fun s=>s≤l.length∧(l.take s).any p=false) (fun s=>l.length-s) 0 ⟨⟨bK _,rfl⟩,⟨rfl,rfl,rfl,rfl,trivial⟩,rfl⟩ ?_
 rintro k t ⟨bD,fY⟩
 have hk:k≤l.length:=bD
 have hn:(l.take k).any p=false:=fY
 clear bD fY
 refine aq (fun ab=>?_) (fun ay=>?_)
 ·have ab:k<l.length:=by have ab:(k:Int)<l.length:=ab;omega
  have hs:=vr ab p
  rw[hn,qS]at hs
  refine aH.mk rfl (cg.mk l[k] (by omega) (get_some ab) ?_)
  refine fM [] (hg k ab) (fun c=>?_) (fun c=>?_)
  ·have hp:l.any p=true:=nT.2 ⟨l[k],cD ab,c⟩
   exact .done ⟨_,rfl,rfl,by rw[hp];exact aY (by omega)⟩
  ·exact aZ (k+1) (by show l.length-(k+1)<l.length-k;omega) ⟨ab,hs.trans c⟩ ⟨rfl,rfl,rfl,bu (by omega),trivial⟩ (.refl _)
 ·have ay:k=l.length:=by have ay:¬(k:Int)<l.length:=ay;omega
  subst ay
  rw[ig]at hn
  exact .done ⟨_,rfl,rfl,by rw[hn];rfl⟩
theorem Zp(g:Nat)(cap:List AV)(l:List (Sh.T jL))(p:Sh.T jL→Bool)(σ:Hp)(hl:l.length≤1000000)(hg:∀(i:Nat) (hi:i<l.length),ACalls Tryz.prog g (Ig l[i]::cap) σ (aE (.bool (p l[i])) σ)):ACalls Tryz.prog 207 [.ai jL l,.fn (.func g) [] cap] σ (aE (.bool (l.any p)) σ):=by
 refine aA Tryz.func207 ?_
 refine .mk [] _ (aeY g cap l p _ hl hg) ?_
 rintro _ _ ⟨n,rfl,rfl,hn⟩
 rw[← hn]
 refine aq (fun c=>?_) (fun c=>?_)
 ·have c:0≤n:=c
  rw[aY c]
  exact .done ⟨rfl,rfl⟩
 ·have c:¬0≤n:=c
  rw[b9 c]
  exact .done ⟨rfl,rfl⟩
theorem aeX(l:List Int)(x:Int)(σ:Hp)(hl:l.length≤1000000):ACalls Tryz.prog 329 [.ai (.int .u64) l,.int .u64 x] σ (fun r σ'=>∃n:Int,r=.int .i64 n∧σ'=σ∧decide (0≤n)=l.any fun z=>decide (x=z)):=by
 refine aA Tryz.func329 ?_
 refine cj (S:=Nat) (fun s=>[(0,.ai (.int .u64) l),(1,.int .u64 x),(7,.int .i64 l.length),(8,.int .i64 s)]) (fun _=>σ) (fun s=>s≤l.length∧((l.take s).any fun z=>decide (x=z))=false) (fun s=>l.length-s) 0 ⟨⟨bK _,rfl⟩,⟨rfl,rfl,rfl,rfl,trivial⟩,rfl⟩ ?_
 rintro k t ⟨bD,fY⟩
 have hk:k≤l.length:=bD
 have hn:((l.take k).any fun z=>decide (x=z))=false:=fY
 clear bD fY
 refine aq (fun ab=>?_) (fun ay=>?_)
 ·have ab:k<l.length:=by have ab:(k:Int)<l.length:=ab;omega
  have hs:=vr ab fun z=>decide (x=z)
  rw[hn,qS]at hs
  refine aH.mk rfl (cg.mk l[k] (by omega) (get_some ab) ?_)
  refine aq (fun c=>?_) (fun c=>?_)
  ·have c:x=l[k]:=c
   have hp:(l.any fun z=>decide (x=z))=true:=nT.2 ⟨l[k],cD ab,aY c⟩
   exact .done ⟨_,rfl,rfl,by rw[hp];exact aY (by omega)⟩
  ·have c:¬x=l[k]:=c
   exact aZ (k+1) (by show l.length-(k+1)<l.length-k;omega) ⟨ab,hs.trans (b9 c)⟩ ⟨rfl,rfl,rfl,bu (by omega),trivial⟩ (.refl _)
 ·have ay:k=l.length:=by have ay:¬(k:Int)<l.length:=ay;omega
  subst ay
  rw[ig]at hn
  exact .done ⟨_,rfl,rfl,by rw[hn];rfl⟩
theorem Zo(l:List Int)(x:Int)(σ:Hp)(hl:l.length≤1000000):ACalls Tryz.prog 301 [.ai (.int .u64) l,.int .u64 x] σ (aE (.bool (l.any fun z=>decide (x=z))) σ):=by
 refine aA Tryz.func301 ?_
 refine .mk [] _ (aeX l x _ hl) ?_
 rintro _ _ ⟨n,rfl,rfl,hn⟩
 rw[← hn]
 refine aq (fun c=>?_) (fun c=>?_)
 ·have c:0≤n:=c
  rw[aY c]
  exact .done ⟨rfl,rfl⟩
 ·have c:¬0≤n:=c
  rw[b9 c]
  exact .done ⟨rfl,rfl⟩
end Go.Proofs.YtnikdflhefijbaaGreat
