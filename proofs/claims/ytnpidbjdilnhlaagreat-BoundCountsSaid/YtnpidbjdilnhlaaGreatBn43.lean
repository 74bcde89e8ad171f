import Derived.Test.YtnpidbjdilnhlaaGreatBn12
namespace Go.Proofs.YtnpidbjdilnhlaaGreat
open Go.RowKit
set_option maxRecDepth 100000
set_option maxHeartbeats 4000000
def gA(p:Int)(n:Nat):Nat:=if n<1 then 0 else (p % (n:Int)).toNat
theorem zN{p:Int}{n:Nat}(h:0<n):gA p n<n:=by
 unfold gA
 rw[if_neg (by omega)]
 have h1:=Int.emod_nonneg p (show (n:Int)≠0 by omega)
 have h2:=Int.emod_lt_of_pos p (show (0:Int)<n by omega)
 omega
theorem XN{p:Int}{n:Nat}(h0:0<n)(hn:n≤1000000)(h:p.tmod n<0):IntKind.i64.wrap (p.tmod n+n)=((gA p n:Nat):Int):=by
 have h1:=Int.emod_nonneg p (show (n:Int)≠0 by omega)
 have h2:=Int.emod_lt_of_pos p (show (0:Int)<n by omega)
 have e:= @Int.tmod_eq_emod p n
 unfold gA
 rw[if_neg (by omega),IntKind.wrap_i64]
 split at e <;> omega
theorem XM{p:Int}{n:Nat}(h0:0<n)(h:¬p.tmod n<0):p.tmod n=((gA p n:Nat):Int):=by
 have h1:=Int.emod_nonneg p (show (n:Int)≠0 by omega)
 have h2:=Int.emod_lt_of_pos p (show (0:Int)<n by omega)
 have e:= @Int.tmod_eq_emod p n
 unfold gA
 rw[if_neg (by omega)]
 split at e <;> omega
theorem VB{p:Int}{n:Nat}(h:(n:Int)<1):(0:Int)=((gA p n:Nat):Int):=by
 unfold gA
 rw[if_pos (by omega)];rfl
theorem Eg(p d:Int)(n:Nat)(σ:Hp)(hn:n≤1000000):ACalls Tryz.prog 87 [.agg [.int .i64 p,.int .i64 d],.int .i64 n] σ (az (.int .i64 (gA p n)) σ):=by
 refine okF Tryz.func87 (by kernel_rfl) ?_
 intro aC
 refine ao (fun c2 =>?_) (fun c2 =>?_)
 ·have c2:(↑n:Int)<1:=c2
  exact .drop 0 1 (.done ⟨aN (VB (by assumption)),rfl⟩)
 ·have c2:¬((↑n:Int)<1):=c2
  refine aa 0 ?_
  refine ag.mk (by omega) ?_
  refine ao (fun c3 =>?_) (fun c3 =>?_)
  ·have c3:p.tmod (↑n:Int)<0:=c3
   exact .drop 0 1 (.done ⟨aN (XN (by omega) hn (by assumption)),rfl⟩)
  ·have c3:¬(p.tmod (↑n:Int)<0):=c3
   exact .drop 0 1 (.done ⟨aN (XM (by omega) (by assumption)),rfl⟩)
def gY(l:List Bool):List AV:=l.map AV.bool
theorem qJ{dn:List Bool}{k:Nat}(h:k<dn.length){b:Bool}(hb:dn[k]=b):(gY dn)[0+((k:Int)).toNat*1]?=some (.bool b):=by
 simp[gY,h,hb]
theorem aaf{dn:List Bool}{k:Nat}(h:k<dn.length)(hd:dn[k]=false):dn.all id=false:=by
 cases ha:dn.all id with
 | false=>rfl
 | true =>
  have:=List.all_eq_true.1 ha _ (List.getElem_mem h)
  rw[hd]at this
  cases this
theorem Ek(sv:AV)(u:Int)(b:Nat)(dn:List Bool)(σ:Hp)(hn:dn.length≤1000000):ACalls Tryz.prog 67 [.agg [sv,.ae b 0 dn.length 1,.int .i64 u]] ((b,gY dn)::σ) (az (.bool (dn.all id)) ((b,gY dn)::σ)):=by
 refine okF Tryz.func67 (by kernel_rfl) ?_
 intro aC
 refine aa 0 ?_
 refine bO (S:=Nat) (fun s=>[(6,.ae b 0 dn.length 1),(7,.int .i64 dn.length),(8,.int .i64 s)]) (fun _=>(aC,[sv,.ae b 0 dn.length 1,.int .i64 u])::(b,gY dn)::σ) (fun s=>s≤dn.length∧(dn.take s).all id=true) (fun s=>dn.length-s) 0 ⟨⟨Nat.zero_le _,rfl⟩,⟨rfl,rfl,rfl,trivial⟩,rfl⟩ ?_
 rintro k g ⟨hk,bM⟩
 refine ao (fun h =>?_) (fun h =>?_)
 ·have h:(k:Int)<dn.length:=h
  have qm:k<dn.length:=by omega
  refine ag.mk ⟨rfl,by omega,by omega⟩ ?_
  cases hd:dn[k] with
  | true =>
   refine aL 1 rfl (qJ qm hd) ?_
   refine bg (k+1) ?_ ⟨qm,?_⟩ ⟨rfl,rfl,a8 (by omega),trivial⟩ (aF rfl)
   ·show dn.length-(k+1)<dn.length-k;omega
   ·rw[List.take_succ_eq_append_getElem qm,List.all_append,bM,hd];rfl
  | false =>
   refine aL 1 rfl (qJ qm hd) ?_
   exact .drop 0 1 (.done ⟨congrArg AV.bool (aaf qm hd).symm,rfl⟩)
 ·have h:¬(k:Int)<dn.length:=h
  exact .drop 0 1 (.done ⟨congrArg AV.bool (by rw[← List.take_of_length_le (show dn.length≤k by omega)];exact bM.symm),rfl⟩)
def iX(l:List Int):List AV:=l.map (AV.int .i64)
def isNil:AV→Bool
 | .nilif=>true
 | _=>false
theorem Ya(n:Nat):bU [.bool false] n=gY (List.replicate n false):=by
 unfold gY
 induction n with
 | zero=>rfl
 | succ n ih=>simp[bU,ih,List.replicate_succ]
theorem X9(n:Nat):bU [.int .i64 0] n=iX (List.replicate n 0):=by
 unfold iX
 induction n with
 | zero=>rfl
 | succ n ih=>simp[bU,ih,List.replicate_succ]
def qx(L:List AV)(k:Nat):List Bool:=(L.take k).map isNil++List.replicate (L.length-k) false
theorem W8(L:List AV):qx L 0=List.replicate L.length false:=by simp[qx]
theorem Gd(L:List AV)(k:Nat)(h:k≤L.length):(qx L k).length=L.length:=by simp[qx];omega
theorem OU(L:List AV):qx L L.length=L.map isNil:=by simp[qx]
theorem OT(L:List AV)(k:Nat)(h:k<L.length):(qx L k).set k (isNil L[k])=qx L (k+1):=by
 unfold qx
 rw[show L.length-k=(L.length-(k+1))+1 by omega,List.replicate_succ,List.take_succ_eq_append_getElem h,List.map_append]
 have hl:((L.take k).map isNil).length=k:=by simp;omega
 rw[List.set_append_right _ _ (by omega),hl,Nat.sub_self]
 simp
theorem xS{L:List AV}{k:Nat}(h:k<L.length){x:AV}(hx:L[k]=x):L[0+((k:Int)).toNat*1]?=some x:=by
 rw[show 0+((k:Int)).toNat*1=k by omega,List.getElem?_eq_getElem h,hx]
theorem qI{dn:List Bool}{k:Nat}(b:Bool)(h:k<dn.length):jq ⟨.bool,1,1,[.bool false]⟩ (gY dn) (0+((k:Int)).toNat*1) (.bool b)=some (gY (dn.set k b)):=by
 have e:0+((k:Int)).toNat*1=k:=by omega
 have h2:Nat.ble (k+1) (gY dn).length=true:=Nat.ble_eq_true_of_le (by simp[gY];omega)
 rw[e]
 show (match Nat.beq 1 1,Nat.ble (k+1) (gY dn).length with | true,true=>some (eF (gY dn) k [.bool b]) | _,_=>none)=_
 rw[h2]
 show some ((gY dn).set k (.bool b))=_
 rw[show (gY dn).set k (.bool b)=gY (dn.set k b) by simp[gY,List.map_set]]
theorem tH{l:List Int}{k:Nat}(h:k<l.length):(iX l)[0+((k:Int)).toNat*1]?=some (.int .i64 (l.getD k 0)):=by
 simp[iX,h,List.getD]
theorem tG{l:List Int}{k:Nat}(x:Int)(h:k<l.length):jq ⟨.int .i64,1,8,[.int .i64 0]⟩ (iX l) (0+((k:Int)).toNat*1) (.int .i64 x)=some (iX (l.set k x)):=by
 have e:0+((k:Int)).toNat*1=k:=by omega
 have h2:Nat.ble (k+1) (iX l).length=true:=Nat.ble_eq_true_of_le (by simp[iX];omega)
 rw[e]
 show (match Nat.beq 1 1,Nat.ble (k+1) (iX l).length with | true,true=>some (eF (iX l) k [.int .i64 x]) | _,_=>none)=_
 rw[h2]
 show some ((iX l).set k (.int .i64 x))=_
 rw[show (iX l).set k (.int .i64 x)=iX (l.set k x) by simp[iX,List.map_set]]
structure jk(A:Type) where
 a:A
 st:List Int
 dn:List Bool
 us:Nat
def iQ{A:Type}(step:A→Nat→Int→A×Bool)(tell:A→Nat→A)(n:Nat)(x:jk A)(p:Int×Int×Unit):jk A:=
 if x.dn.getD (gA p.1 n) true then ⟨tell x.a (x.us+1),x.st,x.dn,x.us+1⟩
 else ⟨tell (step x.a (gA p.1 n) p.2.1).1 (x.us+1),x.st.set (gA p.1 n) (wr (x.st.getD (gA p.1 n) 0+1)),x.dn.set (gA p.1 n) (step x.a (gA p.1 n) p.2.1).2,x.us+1⟩
def ko{A:Type}(step:A→Nat→Int→A×Bool)(tell:A→Nat→A)(n:Nat):List (Int×Int×Unit)→jk A→jk A
 | [],x=>x
 | p::ps,x=>if x.dn.all id then x else ko step tell n ps (iQ step tell n x p)
structure AWorld where
 A:Type
 S:Type
 abs:S→A
 B:S→Hp
 L:List AV
 mt:TypeId
 mp:Nat
 step:A→Nat→Int→A×Bool
 tell:A→Nat→A
 free:A→Prop
 keeps:∀a i d,free a→i<L.length→free (step a i d).1
 told:∀a k,free a→free (tell a k)
 mach : ∀ i (h : i < L.length), L[i] = .nilif ∨ ∃ t r, L[i] = .iface t (.ptr r 0) ∧ ∃ g, Meth Tryz.prog t "Step" g ∧
  ∀(s:S) (d:Int) (σ:Hp),free (abs s)→ACalls Tryz.prog g [.ptr r 0,.iface mt (.ptr mp 0),.int .i64 d] (B s++σ) (fun x σ'=>∃s',abs s'=(step (abs s) i d).1∧x=.bool (step (abs s) i d).2∧σ'=B s'++σ)
abbrev AWorld.mv(W:AWorld):AV:=.iface W.mt (.ptr W.mp 0)
def AWorld.init(W:AWorld)(a:W.A):jk W.A:=⟨a,List.replicate W.L.length 0,W.L.map isNil,0⟩
theorem AWorld.aStep (W : AWorld) (fr : Hp) {s : W.S} {σ : Hp} {K : AV → Hp → Prop} {i r : Nat} {t : TypeId} {g : FuncId} {d : Int} (hMe : Meth Tryz.prog t "Step" g)
  (fF:∀(s:W.S) (d:Int) (σ:Hp),W.free (W.abs s)→ACalls Tryz.prog g [.ptr r 0,.iface W.mt (.ptr W.mp 0),.int .i64 d] (W.B s++σ) (fun x σ'=>∃s',W.abs s'=(W.step (W.abs s) i d).1∧x=.bool (W.step (W.abs s) i d).2∧σ'=W.B s'++σ))
  (hf : W.free (W.abs s)) (k : ∀ s', W.abs s' = (W.step (W.abs s) i d).1 → K (.bool (W.step (W.abs s) i d).2) (fr ++ (W.B s' ++ σ))) : InvAt Tryz.prog t "Step" fun g => CallAt Tryz.prog g K [.ptr r 0, W.mv, .int .i64 d] (fr ++ (W.B s ++ σ)) := by
 refine⟨g,hMe,.perm _ (qC fr (W.B s) σ) (fF s d (fr++σ) hf) ?_⟩
 rintro r σ' ⟨s',h3,rfl,rfl⟩
 exact⟨_,(qC fr (W.B s') σ).symm,k s' h3⟩
def AWorld.run(W:AWorld)(aA:List (Int×Int×Unit))(a:W.A):jk W.A:=ko W.step W.tell W.L.length aA (W.init a)
def Hf(W:AWorld)(aA:List (Int×Int×Unit))(a:W.A)(fr σ:Hp):AV→Hp→Prop:=fun x σ'=>∃s',W.abs s'=(W.run aA a).a∧x=.agg [.ah (.int .i64) (W.run aA a).st,.ah .bool (W.run aA a).dn,.int .i64 (W.run aA a).us]∧σ'=fr++(W.B s'++σ)
theorem lf{b off len es:Nat}{e:Sh}{l:List e.T}{x1 x2 x3 y1 y2 y3:AV}(h1:dP b off len es e l x1 y1)(h2:dP b off len es e l x2 y2)(h3:dP b off len es e l x3 y3)(l1:y1.leaf=true)(l2:y2.leaf=true)(l3:y3.leaf=true):dP b off len es e l (.agg [x1,x2,x3]) (.agg [y1,y2,y3]):=by
 refine .agg _ _ rfl (fun i y hy =>?_) (fun i x y hx hy =>?_)
 ·match i,hy with
  | 0,hy=>cases hy;exact l1
  | 1,hy=>cases hy;exact l2
  | 2,hy=>cases hy;exact l3
  | i+3,hy=>cases hy
 ·match i,hx,hy with
  | 0,hx,hy=>cases hx;cases hy;exact h1
  | 1,hx,hy=>cases hx;cases hy;exact h2
  | 2,hx,hy=>cases hx;cases hy;exact h3
  | i+3,hx,hy=>cases hx
theorem MY:∀(ws:List Int),iX ws=ws.flatMap (Sh.cells (.int .i64))
 | []=>rfl
 | z::ws=>congrArg (AV.int .i64 z :: ·) (MY ws)
theorem NT:∀(ws:List Bool),gY ws=ws.flatMap (Sh.cells .bool)
 | []=>rfl
 | z::ws=>congrArg (AV.bool z :: ·) (NT ws)
theorem tI{l:List Int}{n:Nat}(h:l.length=n):((iX l).drop 0).take (n*1)=l.flatMap (Sh.cells (.int .i64)):=by
 rw[List.drop_zero,← MY]
 exact List.take_of_length_le (by simp[iX,h])
theorem tN{l:List Bool}{n:Nat}(h:l.length=n):((gY l).drop 0).take (n*1)=l.flatMap (Sh.cells .bool):=by
 rw[List.drop_zero,← NT]
 exact List.take_of_length_le (by simp[gY,h])
def sG(W:AWorld)(aA:List (Int×Int×Unit))(a0:W.A)(x:W.S×List Int×List Bool×Nat):Prop:=
 x.2.2.2≤aA.length∧x.2.1.length=W.L.length∧x.2.2.1.length=W.L.length∧(∀i (h:i<W.L.length),W.L[i]=.nilif→x.2.2.1[i]?=some true)∧W.free (W.abs x.1)∧ko W.step W.tell W.L.length (aA.drop x.2.2.2) ⟨W.abs x.1,x.2.1,x.2.2.1,x.2.2.2⟩=W.run aA a0
theorem YN{A:Type}{step:A→Nat→Int→A×Bool}{tell:A→Nat→A}{n:Nat}(l:List (Int×Int×Unit)){x:jk A}(h:x.dn.all id=true):ko step tell n l x=x:=by
 cases l with
 | nil=>rfl
 | cons p ps=>rw[ko,if_pos h]
theorem NL{A:Type}{step:A→Nat→Int→A×Bool}{tell:A→Nat→A}{n:Nat}(p:Int×Int×Unit)(ps:List (Int×Int×Unit)){x:jk A}(h:x.dn.all id=false):ko step tell n (p::ps) x=ko step tell n ps (iQ step tell n x p):=by
 rw[ko,if_neg (by rw[h];decide)]
theorem tM{W:AWorld}{aA:List (Int×Int×Unit)}{a0:W.A}{s:W.S}{st:List Int}{dn:List Bool}{us:Nat}(h:sG W aA a0 (s,st,dn,us))(he:us=aA.length∨dn.all id=true):W.run aA a0=⟨W.abs s,st,dn,us⟩:=by
 obtain⟨_,_,_,_,_,hg⟩:=h
 rw[← hg]
 rcases he with he | he
 ·show ko _ _ _ (aA.drop us) _=_
  rw[he,List.drop_length];rfl
 ·exact YN _ he
theorem OL{dn:List Bool}{i:Nat}{b d:Bool}(h:i<dn.length)(hd:dn[i]=b):dn.getD i d=b:=by
 rw[List.getD_eq_getElem?_getD,List.getElem?_eq_getElem h,hd];rfl
theorem C0{W:AWorld}{aA:List (Int×Int×Unit)}{a0:W.A}{s:W.S}{st:List Int}{dn:List Bool}{us i:Nat}{pw pd:Int}{pu:Unit}(h:sG W aA a0 (s,st,dn,us))(ka:∀a k,W.tell a k=a)(bM:dn.all id=false)(eK:us<aA.length)(dN:(pw,pd,pu)=aA[us])(hi:i=gA pw W.L.length)(de:i<dn.length)(hd:dn[i]=true):sG W aA a0 (s,st,dn,us+1):=by
 obtain⟨h1,h2,h3,h4,h5,hg⟩:=h
 refine⟨eK,h2,h3,h4,h5,?_⟩
 rw[← hg]
 show ko _ _ _ (aA.drop (us+1)) _=ko _ _ _ (aA.drop us) _
 rw[List.drop_eq_getElem_cons eK,← dN,NL _ _ bM]
 unfold iQ
 dsimp only
 rw[← hi,if_pos (OL de hd),ka]
theorem tC{W:AWorld}{aA:List (Int×Int×Unit)}{a0:W.A}{s s':W.S}{st:List Int}{dn:List Bool}{us i:Nat}{pw pd:Int}{pu:Unit}(h:sG W aA a0 (s,st,dn,us))(ka:∀a k,W.tell a k=a)(bM:dn.all id=false)(eK:us<aA.length)(dN:(pw,pd,pu)=aA[us])(hi:i=gA pw W.L.length)(de:i<W.L.length){QY:i<dn.length}(hd:dn[i]=false)(cT:W.abs s'=(W.step (W.abs s) i pd).1):
  sG W aA a0 (s',st.set i (wr (st.getD i 0+1)),dn.set i (W.step (W.abs s) i pd).2,us+1):=by
 obtain⟨h1,h2,h3,h4,h5,hg⟩:=h
 refine⟨eK,(List.length_set ..).trans h2,(List.length_set ..).trans h3,?_,?_,?_⟩
 ·intro k hk hm
  have:=h4 k hk hm
  show (dn.set i _)[k]?=some true
  rw[List.getElem?_set]
  split
  ·rename_i he
   subst he
   rw[List.getElem?_eq_getElem QY,hd]at this
   cases this
  ·exact this
 ·show W.free (W.abs s')
  rw[cT];exact W.keeps _ _ _ h5 de
 ·rw[← hg]
  show ko _ _ _ (aA.drop (us+1)) _=ko _ _ _ (aA.drop us) _
  rw[List.drop_eq_getElem_cons eK,← dN,NL _ _ bM]
  unfold iQ
  dsimp only
  rw[← hi,if_neg (by rw[OL QY hd];decide),ka,← cT]
theorem aby(W:AWorld)(lb:Nat)(aA:List (Int×Int×Unit))(s0:W.S)(σ:Hp)(hn:W.L.length≤100000)(hs:aA.length≤100000)(hf:W.free (W.abs s0))(ka:∀a k,W.tell a k=a):
  ACalls Tryz.prog 172 [W.mv,.ae lb 0 W.L.length 1,.ah (.field (.int .i64) (.field (.int .i64) .nil)) aA,.gk] ((lb,W.L)::(W.B s0++σ)) (Hf W aA (W.abs s0) [(lb,W.L)] σ):=by
 obtain⟨a0,qw⟩:∃a0,a0=W.abs s0:=⟨_,rfl⟩
 rw[← qw]
 obtain⟨z,rz⟩:∃z,z=s0:=⟨_,rfl⟩
 subst rz
 refine okF Tryz.func172 (by kernel_rfl) ?_
 intro aC
 refine .meet (S:=Nat×Nat×Nat) (fun s=>[(0,W.mv),(1,.ae lb 0 W.L.length 1),(2,.ah (.field (.int .i64) (.field (.int .i64) .nil)) aA),(3,.gk),(8,.ptr aC 0),(9,.ptr s.1 0)])
  (fun s=>(s.1,[.ae s.2.1 0 W.L.length 1,.ae s.2.2 0 W.L.length 1,.int .i64 0])::(s.2.1,bU [.int .i64 0] W.L.length)::(s.2.2,bU [.bool false] W.L.length)::(aC,[.af,.af,.int .i64 0])::(lb,W.L)::(W.B z++σ)) (by kernel_rfl) ?_ ?_
 ·repeat' first
   | exact ca.mk (_,_,_) ⟨rfl,rfl,rfl,rfl,rfl,rfl,trivial⟩ (aF rfl)
   | exact ca.mk (_,_,_) ⟨rfl,rfl,rfl,rfl,rfl,rfl,trivial⟩ (.pull [2,2,1] (aF rfl))
   | exact ca.mk (_,_,_) ⟨rfl,rfl,rfl,rfl,rfl,rfl,trivial⟩ (.pull [2,1,2] (aF rfl))
   | exact ca.mk (_,_,_) ⟨rfl,rfl,rfl,rfl,rfl,rfl,trivial⟩ (.pull [2,2,0] (aF rfl))
   | exact ca.mk (_,_,_) ⟨rfl,rfl,rfl,rfl,rfl,rfl,trivial⟩ (.pull [2,1,1] (aF rfl))
   | exact ca.mk (_,_,_) ⟨rfl,rfl,rfl,rfl,rfl,rfl,trivial⟩ (.pull [2,1,0] (aF rfl))
   | refine And.intro ?_ ?_
   | refine ag.mk ⟨by omega,by omega,by omega,by decide⟩ ?_
   | refine ai 0 ?_
   | refine ai 1 ?_
   | refine ai 2 ?_
   | intro b
 rintro⟨br,ba,bd⟩ g
 refine ax [] (cy _ _ _) ?_
 obtain⟨us,fA⟩:∃us:Nat,us=0:=⟨_,rfl⟩
 obtain⟨st,ak⟩:∃st,st=(List.replicate W.L.length 0:List Int):=⟨_,rfl⟩
 refine bO (S:=Nat) (fun s=>[(0,W.mv),(1,.ae lb 0 W.L.length 1),(2,.ah (.field (.int .i64) (.field (.int .i64) .nil)) aA),(3,.gk),(8,.ptr aC 0),(9,.ptr br 0),(23,.ae lb 0 W.L.length 1),(24,.int .i64 W.L.length),(25,.int .i64 s)])
  (fun s=>(br,[.ae ba 0 W.L.length 1,.ae bd 0 W.L.length 1,.int .i64 us])::(ba,iX st)::(bd,gY (qx W.L s))::(aC,[.af,.af,.int .i64 0])::(lb,W.L)::(W.B z++σ)) (fun s=>s≤W.L.length) (fun s=>W.L.length-s) 0 ⟨Nat.zero_le _,⟨rfl,rfl,rfl,rfl,rfl,rfl,rfl,rfl,rfl,trivial⟩,by rw[W8,← Ya,ak,← X9,fA];rfl⟩ ?_
 intro k g hk
 have hk:k≤W.L.length:=hk
 refine ao (fun ab =>?_) (fun au =>?_)
 ·have ab:(k:Int)<W.L.length:=ab
  have ab:k<W.L.length:=by omega
  refine ag.mk ⟨rfl,by omega,by omega⟩ ?_
  rcases W.mach k ab with hm | ⟨t,r,hm,_⟩
  ·refine dJ.mk 4 _ (AV.nilif) rfl (xS ab hm) ?_
   refine .sched [] (upto [] 7 0) (by kernel_rfl) ?_
   refine aa 0 ?_
   refine ag.mk ⟨rfl,by omega,by omega⟩ ?_
   refine cd 2 rfl (qI _ (by rw[Gd _ _ hk];omega)) ?_
   refine bg (k+1) ?_ ab ⟨rfl,rfl,rfl,rfl,rfl,rfl,rfl,rfl,a8 (by omega),trivial⟩ (aF ?_)
   ·show W.L.length-(k+1)<W.L.length-k;omega
   ·rw[← OT _ _ ab,hm];rfl
  ·refine dJ.mk 4 _ (AV.iface t (.ptr r 0)) rfl (xS ab hm) ?_
   refine .sched [] (upto [] 7 0) (by kernel_rfl) ?_
   refine aa 0 ?_
   refine ag.mk ⟨rfl,by omega,by omega⟩ ?_
   refine cd 2 rfl (qI _ (by rw[Gd _ _ hk];omega)) ?_
   refine bg (k+1) ?_ ab ⟨rfl,rfl,rfl,rfl,rfl,rfl,rfl,rfl,a8 (by omega),trivial⟩ (aF ?_)
   ·show W.L.length-(k+1)<W.L.length-k;omega
   ·rw[← OT _ _ ab,hm];rfl
 ·have au:¬(k:Int)<W.L.length:=au
  obtain rfl:k=W.L.length:=by omega
  obtain⟨dn,mu⟩:∃dn,dn=qx W.L W.L.length:=⟨_,rfl⟩
  rw[← mu]
  have dA:dn.length=W.L.length:=by rw[mu];exact Gd _ _ (Nat.le_refl _)
  have bV:st.length=W.L.length:=by rw[ak,List.length_replicate]
  have o9:∀i (h:i<W.L.length),W.L[i]=.nilif→dn[i]?=some true:=by
   intro i h hm
   rw[mu,OU,List.getElem?_map,List.getElem?_eq_getElem h,hm];rfl
  obtain⟨s,dz⟩:∃s,s=z:=⟨_,rfl⟩
  subst dz
  have hI:sG W aA a0 (s,st,dn,us):=by
   exact⟨by show us≤_;omega,bV,dA,o9,hf,by rw[fA,mu,OU,ak,qw];rfl⟩
  have ⟨fA,bV,dA,o9,hf,JR⟩:=hI
  have fA:us≤aA.length:=fA
  have bV:st.length=W.L.length:=bV
  have dA:dn.length=W.L.length:=dA
  have hF:=fun σ=>Ek (.ae ba 0 W.L.length 1) us bd dn σ (by omega)
  rw[dA]at hF
  refine aa 0 ?_
  refine ao (fun c1 =>?_) (fun c1 =>?_)
  ·have c1:(↑us:Int)=(↑aA.length:Int):=c1
   have hE:=tM hI (.inl (by show us=_;omega))
   refine aa 0 ?_
   refine ai 3 ?_
   refine aa 3 ?_
   refine .cb 1 ba 0 W.L.length 1 _ (.int .i64) st rfl (tI bV) ⟨bV,rfl,by decide⟩ (lf .here (.refl _) (.refl _) rfl rfl rfl) ?_
   refine .cb 1 bd 0 W.L.length 1 _ .bool dn rfl (tN dA) ⟨dA,rfl,by decide⟩ (lf (.refl _) .here (.refl _) rfl rfl rfl) ?_
   exact .drop 0 2 (.done ⟨s,by rw[hE],by rw[hE],rfl⟩)
  ·have c1:¬((↑us:Int)=(↑aA.length:Int)):=c1
   refine aa 0 ?_
   refine ax [2] (hF _) ?_
   cases bM:dn.all id with
   | true =>
    have hE:=tM hI (.inr bM)
    refine aa 1 ?_
    refine ai 3 ?_
    refine aa 3 ?_
    refine .cb 2 ba 0 W.L.length 1 _ (.int .i64) st rfl (tI bV) ⟨bV,rfl,by decide⟩ (lf .here (.refl _) (.refl _) rfl rfl rfl) ?_
    refine .cb 0 bd 0 W.L.length 1 _ .bool dn rfl (tN dA) ⟨dA,rfl,by decide⟩ (lf (.refl _) .here (.refl _) rfl rfl rfl) ?_
    exact .drop 0 2 (.done ⟨s,by rw[hE],by rw[hE],rfl⟩)
   | false =>
    refine aa 1 ?_
    refine ag.mk rfl ?_
    have eK:us<aA.length:=by omega
    have kg:AV.int .i64 (IntKind.i64.wrap ((us:Int)+1))=AV.int .i64 ((us+1:Nat):Int):=a8 (by omega)
    obtain⟨pk,dN⟩:∃pk,pk=aA[us]:=⟨_,rfl⟩
    obtain⟨pw,pd,pu⟩:=pk
    have eT:0<W.L.length:=by
     rcases Nat.eq_zero_or_pos W.L.length with h0 | h0
     ·rw[List.length_eq_zero_iff.1 (dA.trans h0)]at bM;cases bM
     ·exact h0
    refine bH.mk (pw,pd,pu) (by omega) ((get_some eK).trans (congrArg some dN.symm)) ?_
    obtain⟨i,hi⟩:∃i,i=gA pw W.L.length:=⟨_,rfl⟩
    have de:i<W.L.length:=by rw[hi];exact zN eT
    have pX:=fun σ=>Eg pw pd W.L.length σ (by omega)
    rw[← hi]at pX
    intro bp
    refine ai 0 ?_
    refine aa 0 ?_
    refine ax [] (pX _) ?_
    refine aa 2 ?_
    refine ag.mk ⟨rfl,by omega,by omega⟩ ?_
    cases hd:dn[i] with
    | true =>
     refine aL 1 rfl (qJ (by omega) hd) ?_
     refine aa 2 ?_
     refine ai 2 ?_
     refine .loop (S:=W.S×List Int×List Bool×Nat) (fun _=>0) (fun _=>[(0,W.mv),(1,.ae lb 0 W.L.length 1),(2,.ah (.field (.int .i64) (.field (.int .i64) .nil)) aA),(3,.gk),(8,.ptr aC 0),(9,.ptr br 0)]) (fun x=>(br,[.ae ba 0 W.L.length 1,.ae bd 0 W.L.length 1,.int .i64 x.2.2.2])::(ba,iX x.2.1)::(bd,gY x.2.2.1)::(aC,[.af,.af,.int .i64 0])::(lb,W.L)::(W.B x.1++σ)) (sG W aA a0) (fun x=>aA.length-x.2.2.2) (s,st,dn,us+1) ⟨rfl,(C0 hI ka bM eK dN hi (by omega) hd),⟨rfl,rfl,rfl,rfl,rfl,rfl,trivial⟩,.drop 0 1 (.pull [2,2,0] (aF ?_))⟩ ?_
     ·show _=(br,[AV.ae ba 0 W.L.length 1,AV.ae bd 0 W.L.length 1,AV.int .i64 ((us+1:Nat):Int)])::_
      rw[← kg]
      rfl
     rintro⟨s,st,dn,us⟩ g hI
     have ⟨fA,bV,dA,o9,hf,JR⟩:=hI
     have fA:us≤aA.length:=fA
     have bV:st.length=W.L.length:=bV
     have dA:dn.length=W.L.length:=dA
     have hF:=fun σ=>Ek (.ae ba 0 W.L.length 1) us bd dn σ (by omega)
     rw[dA]at hF
     refine aa 0 ?_
     refine ao (fun c1 =>?_) (fun c1 =>?_)
     ·have c1:(↑us:Int)=(↑aA.length:Int):=c1
      have hE:=tM hI (.inl (by show us=_;omega))
      refine aa 0 ?_
      refine ai 3 ?_
      refine aa 3 ?_
      refine .cb 1 ba 0 W.L.length 1 _ (.int .i64) st rfl (tI bV) ⟨bV,rfl,by decide⟩ (lf .here (.refl _) (.refl _) rfl rfl rfl) ?_
      refine .cb 1 bd 0 W.L.length 1 _ .bool dn rfl (tN dA) ⟨dA,rfl,by decide⟩ (lf (.refl _) .here (.refl _) rfl rfl rfl) ?_
      exact .drop 0 2 (.done ⟨s,by rw[hE],by rw[hE],rfl⟩)
     ·have c1:¬((↑us:Int)=(↑aA.length:Int)):=c1
      refine aa 0 ?_
      refine ax [2] (hF _) ?_
      cases bM:dn.all id with
      | true =>
       have hE:=tM hI (.inr bM)
       refine aa 1 ?_
       refine ai 3 ?_
       refine aa 3 ?_
       refine .cb 2 ba 0 W.L.length 1 _ (.int .i64) st rfl (tI bV) ⟨bV,rfl,by decide⟩ (lf .here (.refl _) (.refl _) rfl rfl rfl) ?_
       refine .cb 0 bd 0 W.L.length 1 _ .bool dn rfl (tN dA) ⟨dA,rfl,by decide⟩ (lf (.refl _) .here (.refl _) rfl rfl rfl) ?_
       exact .drop 0 2 (.done ⟨s,by rw[hE],by rw[hE],rfl⟩)
      | false =>
       refine aa 1 ?_
       refine ag.mk rfl ?_
       have eK:us<aA.length:=by omega
       have kg:AV.int .i64 (IntKind.i64.wrap ((us:Int)+1))=AV.int .i64 ((us+1:Nat):Int):=a8 (by omega)
       obtain⟨pk,dN⟩:∃pk,pk=aA[us]:=⟨_,rfl⟩
       obtain⟨pw,pd,pu⟩:=pk
       have eT:0<W.L.length:=by
        rcases Nat.eq_zero_or_pos W.L.length with h0 | h0
        ·rw[List.length_eq_zero_iff.1 (dA.trans h0)]at bM;cases bM
        ·exact h0
       refine bH.mk (pw,pd,pu) (by omega) ((get_some eK).trans (congrArg some dN.symm)) ?_
       obtain⟨i,hi⟩:∃i,i=gA pw W.L.length:=⟨_,rfl⟩
       have de:i<W.L.length:=by rw[hi];exact zN eT
       have pX:=fun σ=>Eg pw pd W.L.length σ (by omega)
       rw[← hi]at pX
       intro bp
       refine ai 0 ?_
       refine aa 0 ?_
       refine ax [] (pX _) ?_
       refine aa 2 ?_
       refine ag.mk ⟨rfl,by omega,by omega⟩ ?_
       cases hd:dn[i] with
       | true =>
        refine aL 1 rfl (qJ (by omega) hd) ?_
        refine aa 2 ?_
        refine ai 2 ?_
        refine .mk (s,st,dn,us+1) rfl (by show aA.length-(us+1)<aA.length-us;omega) (C0 hI ka bM eK dN hi (by omega) hd) ⟨rfl,rfl,rfl,rfl,rfl,rfl,trivial⟩ (.drop 0 1 (.pull [2,2,0] (aF ?_)))
        show _=(br,[AV.ae ba 0 W.L.length 1,AV.ae bd 0 W.L.length 1,AV.int .i64 ((us+1:Nat):Int)])::_
        rw[← kg]
        rfl
       | false =>
        refine aL 1 rfl (qJ (by omega) hd) ?_
        rcases W.mach i de with hm | ⟨t,r,hm,gS,hMe,fF⟩
        ·have:=o9 i de hm
         rw[List.getElem?_eq_getElem (by show i<dn.length;omega)]at this
         exact absurd (hd.symm.trans (Option.some.inj this)) (by decide)
        refine .sched [] (.one 0 false (.one 2 false (.one 3 false (.one 4 false (.one 5 false (.one 6 false (.one 7 false (.one 8 false (.one 9 false (.alt 1 (.one 10 false (.one 11 false (.one 12 false .stop))) (.one 10 false (.one 1 false (.one 11 false (.one 12 false .stop)))))))))))))) (by kernel_rfl) ?_
        refine ag.mk ⟨rfl,by omega,by omega⟩ ?_
        refine dJ.mk 5 _ (AV.iface t (.ptr r 0)) rfl (xS de hm) ?_
        refine aa 0 ?_
        refine And.intro ?_ ?_
        ·refine aa 2 ?_
         refine W.aStep [_,_,_,_,_,_] hMe fF hf fun s' cT =>?_
         refine ag.mk ⟨rfl,by omega,by omega⟩ ?_
         refine cd 1 rfl (qI _ (by omega)) ?_
         refine aa 2 ?_
         refine ag.mk ⟨rfl,by omega,by omega⟩ ?_
         refine aL 3 rfl (tH (by omega)) ?_
         refine ag.mk ⟨rfl,by omega,by omega⟩ ?_
         refine cd 3 rfl (tG _ (by omega)) ?_
         refine aa 2 ?_
         refine ai 2 ?_
         refine .mk (s',(st.set i (wr (st.getD i 0+1))),(dn.set i (W.step (W.abs s) i pd).2),us+1) rfl (by show aA.length-(us+1)<aA.length-us;omega) (tC hI ka bM eK dN hi de hd cT) ⟨rfl,rfl,rfl,rfl,rfl,rfl,trivial⟩ (.drop 0 1 (.pull [2,2,0] (aF ?_)))
         show _=(br,[AV.ae ba 0 W.L.length 1,AV.ae bd 0 W.L.length 1,AV.int .i64 ((us+1:Nat):Int)])::_
         rw[← kg]
         rfl
        ·refine W.aStep [_,_,_,_,_,_] hMe fF hf fun s' cT =>?_
         refine aa 2 ?_
         refine ag.mk ⟨rfl,by omega,by omega⟩ ?_
         refine cd 1 rfl (qI _ (by omega)) ?_
         refine aa 2 ?_
         refine ag.mk ⟨rfl,by omega,by omega⟩ ?_
         refine aL 3 rfl (tH (by omega)) ?_
         refine ag.mk ⟨rfl,by omega,by omega⟩ ?_
         refine cd 3 rfl (tG _ (by omega)) ?_
         refine aa 2 ?_
         refine ai 2 ?_
         refine .mk (s',(st.set i (wr (st.getD i 0+1))),(dn.set i (W.step (W.abs s) i pd).2),us+1) rfl (by show aA.length-(us+1)<aA.length-us;omega) (tC hI ka bM eK dN hi de hd cT) ⟨rfl,rfl,rfl,rfl,rfl,rfl,trivial⟩ (.drop 0 1 (.pull [2,2,0] (aF ?_)))
         show _=(br,[AV.ae ba 0 W.L.length 1,AV.ae bd 0 W.L.length 1,AV.int .i64 ((us+1:Nat):Int)])::_
         rw[← kg]
         rfl
    | false =>
     refine aL 1 rfl (qJ (by omega) hd) ?_
     rcases W.mach i de with hm | ⟨t,r,hm,gS,hMe,fF⟩
     ·have:=o9 i de hm
      rw[List.getElem?_eq_getElem (by show i<dn.length;omega)]at this
      exact absurd (hd.symm.trans (Option.some.inj this)) (by decide)
     refine .sched [] (.one 0 false (.one 2 false (.one 3 false (.one 4 false (.one 5 false (.one 6 false (.one 7 false (.one 8 false (.one 9 false (.alt 1 (.one 10 false (.one 11 false (.one 12 false .stop))) (.one 10 false (.one 1 false (.one 11 false (.one 12 false .stop)))))))))))))) (by kernel_rfl) ?_
     refine ag.mk ⟨rfl,by omega,by omega⟩ ?_
     refine dJ.mk 5 _ (AV.iface t (.ptr r 0)) rfl (xS de hm) ?_
     refine aa 0 ?_
     refine And.intro ?_ ?_
     ·refine aa 2 ?_
      refine W.aStep [_,_,_,_,_,_] hMe fF hf fun s' cT =>?_
      refine ag.mk ⟨rfl,by omega,by omega⟩ ?_
      refine cd 1 rfl (qI _ (by omega)) ?_
      refine aa 2 ?_
      refine ag.mk ⟨rfl,by omega,by omega⟩ ?_
      refine aL 3 rfl (tH (by omega)) ?_
      refine ag.mk ⟨rfl,by omega,by omega⟩ ?_
      refine cd 3 rfl (tG _ (by omega)) ?_
      refine aa 2 ?_
      refine ai 2 ?_
      refine .loop (S:=W.S×List Int×List Bool×Nat) (fun _=>0) (fun _=>[(0,W.mv),(1,.ae lb 0 W.L.length 1),(2,.ah (.field (.int .i64) (.field (.int .i64) .nil)) aA),(3,.gk),(8,.ptr aC 0),(9,.ptr br 0)]) (fun x=>(br,[.ae ba 0 W.L.length 1,.ae bd 0 W.L.length 1,.int .i64 x.2.2.2])::(ba,iX x.2.1)::(bd,gY x.2.2.1)::(aC,[.af,.af,.int .i64 0])::(lb,W.L)::(W.B x.1++σ)) (sG W aA a0) (fun x=>aA.length-x.2.2.2) (s',(st.set i (wr (st.getD i 0+1))),(dn.set i (W.step (W.abs s) i pd).2),us+1) ⟨rfl,(tC hI ka bM eK dN hi de hd cT),⟨rfl,rfl,rfl,rfl,rfl,rfl,trivial⟩,.drop 0 1 (.pull [2,2,0] (aF ?_))⟩ ?_
      ·show _=(br,[AV.ae ba 0 W.L.length 1,AV.ae bd 0 W.L.length 1,AV.int .i64 ((us+1:Nat):Int)])::_
       rw[← kg]
       rfl
      rintro⟨s,st,dn,us⟩ g hI
      have ⟨fA,bV,dA,o9,hf,JR⟩:=hI
      have fA:us≤aA.length:=fA
      have bV:st.length=W.L.length:=bV
      have dA:dn.length=W.L.length:=dA
      have hF:=fun σ=>Ek (.ae ba 0 W.L.length 1) us bd dn σ (by omega)
      rw[dA]at hF
      refine aa 0 ?_
      refine ao (fun c1 =>?_) (fun c1 =>?_)
      ·have c1:(↑us:Int)=(↑aA.length:Int):=c1
       have hE:=tM hI (.inl (by show us=_;omega))
       refine aa 0 ?_
       refine ai 3 ?_
       refine aa 3 ?_
       refine .cb 1 ba 0 W.L.length 1 _ (.int .i64) st rfl (tI bV) ⟨bV,rfl,by decide⟩ (lf .here (.refl _) (.refl _) rfl rfl rfl) ?_
       refine .cb 1 bd 0 W.L.length 1 _ .bool dn rfl (tN dA) ⟨dA,rfl,by decide⟩ (lf (.refl _) .here (.refl _) rfl rfl rfl) ?_
       exact .drop 0 2 (.done ⟨s,by rw[hE],by rw[hE],rfl⟩)
      ·have c1:¬((↑us:Int)=(↑aA.length:Int)):=c1
       refine aa 0 ?_
       refine ax [2] (hF _) ?_
       cases bM:dn.all id with
       | true =>
        have hE:=tM hI (.inr bM)
        refine aa 1 ?_
        refine ai 3 ?_
        refine aa 3 ?_
        refine .cb 2 ba 0 W.L.length 1 _ (.int .i64) st rfl (tI bV) ⟨bV,rfl,by decide⟩ (lf .here (.refl _) (.refl _) rfl rfl rfl) ?_
        refine .cb 0 bd 0 W.L.length 1 _ .bool dn rfl (tN dA) ⟨dA,rfl,by decide⟩ (lf (.refl _) .here (.refl _) rfl rfl rfl) ?_
        exact .drop 0 2 (.done ⟨s,by rw[hE],by rw[hE],rfl⟩)
       | false =>
        refine aa 1 ?_
        refine ag.mk rfl ?_
        have eK:us<aA.length:=by omega
        have kg:AV.int .i64 (IntKind.i64.wrap ((us:Int)+1))=AV.int .i64 ((us+1:Nat):Int):=a8 (by omega)
        obtain⟨pk,dN⟩:∃pk,pk=aA[us]:=⟨_,rfl⟩
        obtain⟨pw,pd,pu⟩:=pk
        have eT:0<W.L.length:=by
         rcases Nat.eq_zero_or_pos W.L.length with h0 | h0
         ·rw[List.length_eq_zero_iff.1 (dA.trans h0)]at bM;cases bM
         ·exact h0
        refine bH.mk (pw,pd,pu) (by omega) ((get_some eK).trans (congrArg some dN.symm)) ?_
        obtain⟨i,hi⟩:∃i,i=gA pw W.L.length:=⟨_,rfl⟩
        have de:i<W.L.length:=by rw[hi];exact zN eT
        have pX:=fun σ=>Eg pw pd W.L.length σ (by omega)
        rw[← hi]at pX
        intro bp
        refine ai 0 ?_
        refine aa 0 ?_
        refine ax [] (pX _) ?_
        refine aa 2 ?_
        refine ag.mk ⟨rfl,by omega,by omega⟩ ?_
        cases hd:dn[i] with
        | true =>
         refine aL 1 rfl (qJ (by omega) hd) ?_
         refine aa 2 ?_
         refine ai 2 ?_
         refine .mk (s,st,dn,us+1) rfl (by show aA.length-(us+1)<aA.length-us;omega) (C0 hI ka bM eK dN hi (by omega) hd) ⟨rfl,rfl,rfl,rfl,rfl,rfl,trivial⟩ (.drop 0 1 (.pull [2,2,0] (aF ?_)))
         show _=(br,[AV.ae ba 0 W.L.length 1,AV.ae bd 0 W.L.length 1,AV.int .i64 ((us+1:Nat):Int)])::_
         rw[← kg]
         rfl
        | false =>
         refine aL 1 rfl (qJ (by omega) hd) ?_
         rcases W.mach i de with hm | ⟨t,r,hm,gS,hMe,fF⟩
         ·have:=o9 i de hm
          rw[List.getElem?_eq_getElem (by show i<dn.length;omega)]at this
          exact absurd (hd.symm.trans (Option.some.inj this)) (by decide)
         refine .sched [] (.one 0 false (.one 2 false (.one 3 false (.one 4 false (.one 5 false (.one 6 false (.one 7 false (.one 8 false (.one 9 false (.alt 1 (.one 10 false (.one 11 false (.one 12 false .stop))) (.one 10 false (.one 1 false (.one 11 false (.one 12 false .stop)))))))))))))) (by kernel_rfl) ?_
         refine ag.mk ⟨rfl,by omega,by omega⟩ ?_
         refine dJ.mk 5 _ (AV.iface t (.ptr r 0)) rfl (xS de hm) ?_
         refine aa 0 ?_
         refine And.intro ?_ ?_
         ·refine aa 2 ?_
          refine W.aStep [_,_,_,_,_,_] hMe fF hf fun s' cT =>?_
          refine ag.mk ⟨rfl,by omega,by omega⟩ ?_
          refine cd 1 rfl (qI _ (by omega)) ?_
          refine aa 2 ?_
          refine ag.mk ⟨rfl,by omega,by omega⟩ ?_
          refine aL 3 rfl (tH (by omega)) ?_
          refine ag.mk ⟨rfl,by omega,by omega⟩ ?_
          refine cd 3 rfl (tG _ (by omega)) ?_
          refine aa 2 ?_
          refine ai 2 ?_
          refine .mk (s',(st.set i (wr (st.getD i 0+1))),(dn.set i (W.step (W.abs s) i pd).2),us+1) rfl (by show aA.length-(us+1)<aA.length-us;omega) (tC hI ka bM eK dN hi de hd cT) ⟨rfl,rfl,rfl,rfl,rfl,rfl,trivial⟩ (.drop 0 1 (.pull [2,2,0] (aF ?_)))
          show _=(br,[AV.ae ba 0 W.L.length 1,AV.ae bd 0 W.L.length 1,AV.int .i64 ((us+1:Nat):Int)])::_
          rw[← kg]
          rfl
         ·refine W.aStep [_,_,_,_,_,_] hMe fF hf fun s' cT =>?_
          refine aa 2 ?_
          refine ag.mk ⟨rfl,by omega,by omega⟩ ?_
          refine cd 1 rfl (qI _ (by omega)) ?_
          refine aa 2 ?_
          refine ag.mk ⟨rfl,by omega,by omega⟩ ?_
          refine aL 3 rfl (tH (by omega)) ?_
          refine ag.mk ⟨rfl,by omega,by omega⟩ ?_
          refine cd 3 rfl (tG _ (by omega)) ?_
          refine aa 2 ?_
          refine ai 2 ?_
          refine .mk (s',(st.set i (wr (st.getD i 0+1))),(dn.set i (W.step (W.abs s) i pd).2),us+1) rfl (by show aA.length-(us+1)<aA.length-us;omega) (tC hI ka bM eK dN hi de hd cT) ⟨rfl,rfl,rfl,rfl,rfl,rfl,trivial⟩ (.drop 0 1 (.pull [2,2,0] (aF ?_)))
          show _=(br,[AV.ae ba 0 W.L.length 1,AV.ae bd 0 W.L.length 1,AV.int .i64 ((us+1:Nat):Int)])::_
          rw[← kg]
          rfl
     ·refine W.aStep [_,_,_,_,_,_] hMe fF hf fun s' cT =>?_
      refine aa 2 ?_
      refine ag.mk ⟨rfl,by omega,by omega⟩ ?_
      refine cd 1 rfl (qI _ (by omega)) ?_
      refine aa 2 ?_
      refine ag.mk ⟨rfl,by omega,by omega⟩ ?_
      refine aL 3 rfl (tH (by omega)) ?_
      refine ag.mk ⟨rfl,by omega,by omega⟩ ?_
      refine cd 3 rfl (tG _ (by omega)) ?_
      refine aa 2 ?_
      refine ai 2 ?_
      refine .loop (S:=W.S×List Int×List Bool×Nat) (fun _=>0) (fun _=>[(0,W.mv),(1,.ae lb 0 W.L.length 1),(2,.ah (.field (.int .i64) (.field (.int .i64) .nil)) aA),(3,.gk),(8,.ptr aC 0),(9,.ptr br 0)]) (fun x=>(br,[.ae ba 0 W.L.length 1,.ae bd 0 W.L.length 1,.int .i64 x.2.2.2])::(ba,iX x.2.1)::(bd,gY x.2.2.1)::(aC,[.af,.af,.int .i64 0])::(lb,W.L)::(W.B x.1++σ)) (sG W aA a0) (fun x=>aA.length-x.2.2.2) (s',(st.set i (wr (st.getD i 0+1))),(dn.set i (W.step (W.abs s) i pd).2),us+1) ⟨rfl,(tC hI ka bM eK dN hi de hd cT),⟨rfl,rfl,rfl,rfl,rfl,rfl,trivial⟩,.drop 0 1 (.pull [2,2,0] (aF ?_))⟩ ?_
      ·show _=(br,[AV.ae ba 0 W.L.length 1,AV.ae bd 0 W.L.length 1,AV.int .i64 ((us+1:Nat):Int)])::_
       rw[← kg]
       rfl
      rintro⟨s,st,dn,us⟩ g hI
      have ⟨fA,bV,dA,o9,hf,JR⟩:=hI
      have fA:us≤aA.length:=fA
      have bV:st.length=W.L.length:=bV
      have dA:dn.length=W.L.length:=dA
      have hF:=fun σ=>Ek (.ae ba 0 W.L.length 1) us bd dn σ (by omega)
      rw[dA]at hF
      refine aa 0 ?_
      refine ao (fun c1 =>?_) (fun c1 =>?_)
      ·have c1:(↑us:Int)=(↑aA.length:Int):=c1
       have hE:=tM hI (.inl (by show us=_;omega))
       refine aa 0 ?_
       refine ai 3 ?_
       refine aa 3 ?_
       refine .cb 1 ba 0 W.L.length 1 _ (.int .i64) st rfl (tI bV) ⟨bV,rfl,by decide⟩ (lf .here (.refl _) (.refl _) rfl rfl rfl) ?_
       refine .cb 1 bd 0 W.L.length 1 _ .bool dn rfl (tN dA) ⟨dA,rfl,by decide⟩ (lf (.refl _) .here (.refl _) rfl rfl rfl) ?_
       exact .drop 0 2 (.done ⟨s,by rw[hE],by rw[hE],rfl⟩)
      ·have c1:¬((↑us:Int)=(↑aA.length:Int)):=c1
       refine aa 0 ?_
       refine ax [2] (hF _) ?_
       cases bM:dn.all id with
       | true =>
        have hE:=tM hI (.inr bM)
        refine aa 1 ?_
        refine ai 3 ?_
        refine aa 3 ?_
        refine .cb 2 ba 0 W.L.length 1 _ (.int .i64) st rfl (tI bV) ⟨bV,rfl,by decide⟩ (lf .here (.refl _) (.refl _) rfl rfl rfl) ?_
        refine .cb 0 bd 0 W.L.length 1 _ .bool dn rfl (tN dA) ⟨dA,rfl,by decide⟩ (lf (.refl _) .here (.refl _) rfl rfl rfl) ?_
        exact .drop 0 2 (.done ⟨s,by rw[hE],by rw[hE],rfl⟩)
       | false =>
        refine aa 1 ?_
        refine ag.mk rfl ?_
        have eK:us<aA.length:=by omega
        have kg:AV.int .i64 (IntKind.i64.wrap ((us:Int)+1))=AV.int .i64 ((us+1:Nat):Int):=a8 (by omega)
        obtain⟨pk,dN⟩:∃pk,pk=aA[us]:=⟨_,rfl⟩
        obtain⟨pw,pd,pu⟩:=pk
        have eT:0<W.L.length:=by
         rcases Nat.eq_zero_or_pos W.L.length with h0 | h0
         ·rw[List.length_eq_zero_iff.1 (dA.trans h0)]at bM;cases bM
         ·exact h0
        refine bH.mk (pw,pd,pu) (by omega) ((get_some eK).trans (congrArg some dN.symm)) ?_
        obtain⟨i,hi⟩:∃i,i=gA pw W.L.length:=⟨_,rfl⟩
        have de:i<W.L.length:=by rw[hi];exact zN eT
        have pX:=fun σ=>Eg pw pd W.L.length σ (by omega)
        rw[← hi]at pX
        intro bp
        refine ai 0 ?_
        refine aa 0 ?_
        refine ax [] (pX _) ?_
        refine aa 2 ?_
        refine ag.mk ⟨rfl,by omega,by omega⟩ ?_
        cases hd:dn[i] with
        | true =>
         refine aL 1 rfl (qJ (by omega) hd) ?_
         refine aa 2 ?_
         refine ai 2 ?_
         refine .mk (s,st,dn,us+1) rfl (by show aA.length-(us+1)<aA.length-us;omega) (C0 hI ka bM eK dN hi (by omega) hd) ⟨rfl,rfl,rfl,rfl,rfl,rfl,trivial⟩ (.drop 0 1 (.pull [2,2,0] (aF ?_)))
         show _=(br,[AV.ae ba 0 W.L.length 1,AV.ae bd 0 W.L.length 1,AV.int .i64 ((us+1:Nat):Int)])::_
         rw[← kg]
         rfl
        | false =>
         refine aL 1 rfl (qJ (by omega) hd) ?_
         rcases W.mach i de with hm | ⟨t,r,hm,gS,hMe,fF⟩
         ·have:=o9 i de hm
          rw[List.getElem?_eq_getElem (by show i<dn.length;omega)]at this
          exact absurd (hd.symm.trans (Option.some.inj this)) (by decide)
         refine .sched [] (.one 0 false (.one 2 false (.one 3 false (.one 4 false (.one 5 false (.one 6 false (.one 7 false (.one 8 false (.one 9 false (.alt 1 (.one 10 false (.one 11 false (.one 12 false .stop))) (.one 10 false (.one 1 false (.one 11 false (.one 12 false .stop)))))))))))))) (by kernel_rfl) ?_
         refine ag.mk ⟨rfl,by omega,by omega⟩ ?_
         refine dJ.mk 5 _ (AV.iface t (.ptr r 0)) rfl (xS de hm) ?_
         refine aa 0 ?_
         refine And.intro ?_ ?_
         ·refine aa 2 ?_
          refine W.aStep [_,_,_,_,_,_] hMe fF hf fun s' cT =>?_
          refine ag.mk ⟨rfl,by omega,by omega⟩ ?_
          refine cd 1 rfl (qI _ (by omega)) ?_
          refine aa 2 ?_
          refine ag.mk ⟨rfl,by omega,by omega⟩ ?_
          refine aL 3 rfl (tH (by omega)) ?_
          refine ag.mk ⟨rfl,by omega,by omega⟩ ?_
          refine cd 3 rfl (tG _ (by omega)) ?_
          refine aa 2 ?_
          refine ai 2 ?_
          refine .mk (s',(st.set i (wr (st.getD i 0+1))),(dn.set i (W.step (W.abs s) i pd).2),us+1) rfl (by show aA.length-(us+1)<aA.length-us;omega) (tC hI ka bM eK dN hi de hd cT) ⟨rfl,rfl,rfl,rfl,rfl,rfl,trivial⟩ (.drop 0 1 (.pull [2,2,0] (aF ?_)))
          show _=(br,[AV.ae ba 0 W.L.length 1,AV.ae bd 0 W.L.length 1,AV.int .i64 ((us+1:Nat):Int)])::_
          rw[← kg]
          rfl
         ·refine W.aStep [_,_,_,_,_,_] hMe fF hf fun s' cT =>?_
          refine aa 2 ?_
          refine ag.mk ⟨rfl,by omega,by omega⟩ ?_
          refine cd 1 rfl (qI _ (by omega)) ?_
          refine aa 2 ?_
          refine ag.mk ⟨rfl,by omega,by omega⟩ ?_
          refine aL 3 rfl (tH (by omega)) ?_
          refine ag.mk ⟨rfl,by omega,by omega⟩ ?_
          refine cd 3 rfl (tG _ (by omega)) ?_
          refine aa 2 ?_
          refine ai 2 ?_
          refine .mk (s',(st.set i (wr (st.getD i 0+1))),(dn.set i (W.step (W.abs s) i pd).2),us+1) rfl (by show aA.length-(us+1)<aA.length-us;omega) (tC hI ka bM eK dN hi de hd cT) ⟨rfl,rfl,rfl,rfl,rfl,rfl,trivial⟩ (.drop 0 1 (.pull [2,2,0] (aF ?_)))
          show _=(br,[AV.ae ba 0 W.L.length 1,AV.ae bd 0 W.L.length 1,AV.int .i64 ((us+1:Nat):Int)])::_
          rw[← kg]
          rfl
end Go.Proofs.YtnpidbjdilnhlaaGreat
