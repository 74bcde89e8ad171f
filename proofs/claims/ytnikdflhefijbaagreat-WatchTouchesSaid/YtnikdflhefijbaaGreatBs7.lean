import Derived.Test.YtnikdflhefijbaaGreatBs6
namespace Go.Proofs.YtnikdflhefijbaaGreat
open Go.RowKit
set_option maxRecDepth 100000
set_option maxHeartbeats 4000000
def gE(p:Int)(n:Nat):Nat:=if n<1 then 0 else (p % (n:Int)).toNat
theorem uf{p:Int}{n:Nat}(h:0<n):gE p n<n:=by
 unfold gE;rw[aB (by omega)];have h1:=HK p (show (n:Int)≠0 by omega);have h2:=HU p (show (0:Int)<n by omega);omega
theorem abe{p:Int}{n:Nat}(h0:0<n)(hn:n≤1000000)(h:p.tmod n<0):IntKind.i64.wrap (p.tmod n+n)=((gE p n:Nat):Int):=by
 have h1:=HK p (show (n:Int)≠0 by omega);have h2:=HU p (show (0:Int)<n by omega);have e:= @Int.tmod_eq_emod p n;unfold gE;rw[aB (by omega),IntKind.wrap_i64];split at e <;> omega
theorem abd{p:Int}{n:Nat}(h0:0<n)(h:¬p.tmod n<0):p.tmod n=((gE p n:Nat):Int):=by
 have h1:=HK p (show (n:Int)≠0 by omega);have h2:=HU p (show (0:Int)<n by omega);have e:= @Int.tmod_eq_emod p n;unfold gE;rw[aB (by omega)];split at e <;> omega
theorem Zg{p:Int}{n:Nat}(h:(n:Int)<1):(0:Int)=((gE p n:Nat):Int):=by
 unfold gE;rw[az (by omega)];rfl
theorem wF(p d:Int)(n:Nat)(σ:Hp)(hn:n≤1000000):ACalls Tryz.prog 70 [.agg [.int .i64 p,.int .i64 d],.int .i64 n] σ (ay (.int .i64 (gE p n)) σ):=by
 refine ao Tryz.func70 ?_;intro ax;refine ai (fun c2=>?_) (fun c2=>?_)
 ·have c2:(↑n:Int)<1:=c2;exact .drop 0 1 (.done ⟨aQ (Zg (by assumption)),rfl⟩)
 ·have c2:¬((↑n:Int)<1):=c2;refine aa 0 ?_;refine e9 ?_;refine ai (fun c3=>?_) (fun c3=>?_)
  ·have c3:p.tmod (↑n:Int)<0:=c3;exact .drop 0 1 (.done ⟨aQ (abe (by omega) hn (by assumption)),rfl⟩)
  ·have c3:¬(p.tmod (↑n:Int)<0):=c3;exact .drop 0 1 (.done ⟨aQ (abd (by omega) (by assumption)),rfl⟩)
def hY(l:List Bool):List AV:=l.map AV.bool
theorem lI{dn:List Bool}{k:Nat}(h:k<dn.length){b:Bool}(hb:dn[k]=b):(hY dn)[0+((k:Int)).toNat*1]?=some (.bool b):=by
 simp[hY,h,hb]
theorem aee{dn:List Bool}{k:Nat}(h:k<dn.length)(hd:dn[k]=false):dn.all id=false:=by
 cases ha:dn.all id with
 |false=>rfl
 |true=>
  have:=fq.1 ha _ (bU h);rw[hd]at this;cases this
theorem wG(sv:AV)(u:Int)(b:Nat)(dn:List Bool)(σ:Hp)(hn:dn.length≤1000000):ACalls Tryz.prog 42 [.agg [sv,.af b 0 dn.length 1,.int .i64 u]] ((b,hY dn)::σ) (ay (.bool (dn.all id)) ((b,hY dn)::σ)):=by
 refine ao Tryz.func42 ?_;intro ax;refine aa 0 ?_;refine bc (S:=Nat) (fun s=>[(6,.af b 0 dn.length 1),(7,.int .i64 dn.length),(8,.int .i64 s)]) (fun _=>(ax,[sv,.af b 0 dn.length 1,.int .i64 u])::(b,hY dn)::σ) (fun s=>s≤dn.length∧(dn.take s).all id=true) (fun s=>dn.length-s) 0 ⟨⟨aV _,rfl⟩,⟨rfl,rfl,rfl,trivial⟩,rfl⟩ ?_;rintro k g ⟨hk,bh⟩;refine ai (fun h=>?_) (fun h=>?_)
 ·have h:(k:Int)<dn.length:=h;have qn:k<dn.length:=by omega
  refine aH ?_;cases hd:dn[k] with
  |true=>
   refine aS 1 rfl (lI qn hd) ?_;refine aM (k+1) ?_ ⟨qn,?_⟩ ⟨rfl,rfl,aI (by omega),trivial⟩ (aL rfl)
   ·show dn.length-(k+1)<dn.length-k;omega
   ·rw[eM qn,xt,bh,hd];rfl
  |false=>
   refine aS 1 rfl (lI qn hd) ?_;exact .drop 0 1 (.done ⟨congrArg AV.bool (aee qn hd).symm,rfl⟩)
 ·have h:¬(k:Int)<dn.length:=h;exact .drop 0 1 (.done ⟨congrArg AV.bool (by rw[← dZ (show dn.length≤k by omega)];exact bh.symm),rfl⟩)
def jb(l:List Int):List AV:=l.map (AV.int .i64)
def isNil:AV→Bool
 |.nilif=>true
 |_=>false
theorem RM(n:Nat):cP [.bool false] n=hY (List.replicate n false):=by
 unfold hY
 induction n with
 |zero=>rfl
 |succ n ih=>simp[cP,ih,List.replicate_succ]
theorem RL(n:Nat):cP [.int .i64 0] n=jb (List.replicate n 0):=by
 unfold jb
 induction n with
 |zero=>rfl
 |succ n ih=>simp[cP,ih,List.replicate_succ]
def qy(L:List AV)(k:Nat):List Bool:=(L.take k).map isNil++List.replicate (L.length-k) false
theorem Rg(L:List AV):qy L 0=List.replicate L.length false:=by simp[qy]
theorem ze(L:List AV)(k:Nat)(h:k≤L.length):(qy L k).length=L.length:=by simp[qy];omega
theorem FG(L:List AV):qy L L.length=L.map isNil:=by simp[qy]
theorem FF(L:List AV)(k:Nat)(h:k<L.length):(qy L k).set k (isNil L[k])=qy L (k+1):=by
 unfold qy;rw[show L.length-k=(L.length-(k+1))+1 by omega,Ih,eM h,cE];have hl:((L.take k).map isNil).length=k:=by simp;omega
 rw[Ec _ _ (by omega),hl,l7];simp
theorem qL{L:List AV}{k:Nat}(h:k<L.length){x:AV}(hx:L[k]=x):L[0+((k:Int)).toNat*1]?=some x:=by
 rw[show 0+((k:Int)).toNat*1=k by omega,bu h,hx]
theorem kF{dn:List Bool}{k:Nat}(b:Bool)(h:k<dn.length):kC ⟨.bool,1,1,[.bool false]⟩ (hY dn) (0+((k:Int)).toNat*1) (.bool b)=some (hY (dn.set k b)):=by
 have e:0+((k:Int)).toNat*1=k:=by omega
 have h2:Nat.ble (k+1) (hY dn).length=true:=Nat.ble_eq_true_of_le (by simp[hY];omega);rw[e];show (match Nat.beq 1 1,Nat.ble (k+1) (hY dn).length with | true,true=>some (fG (hY dn) k [.bool b]) | _,_=>none)=_;rw[h2];show some ((hY dn).set k (.bool b))=_;rw[show (hY dn).set k (.bool b)=hY (dn.set k b) by simp[hY,List.map_set]]
theorem mJ{l:List Int}{k:Nat}(h:k<l.length):(jb l)[0+((k:Int)).toNat*1]?=some (.int .i64 (l.getD k 0)):=by
 simp[jb,h,List.getD]
theorem mI{l:List Int}{k:Nat}(x:Int)(h:k<l.length):kC ⟨.int .i64,1,8,[.int .i64 0]⟩ (jb l) (0+((k:Int)).toNat*1) (.int .i64 x)=some (jb (l.set k x)):=by
 have e:0+((k:Int)).toNat*1=k:=by omega
 have h2:Nat.ble (k+1) (jb l).length=true:=Nat.ble_eq_true_of_le (by simp[jb];omega);rw[e];show (match Nat.beq 1 1,Nat.ble (k+1) (jb l).length with | true,true=>some (fG (jb l) k [.int .i64 x]) | _,_=>none)=_;rw[h2];show some ((jb l).set k (.int .i64 x))=_;rw[show (jb l).set k (.int .i64 x)=jb (l.set k x) by simp[jb,List.map_set]]
structure jw(A:Type) where
 a:A
 st:List Int
 dn:List Bool
 us:Nat
def kJ{A:Type}(step:A→Nat→Int→A×Bool)(tell:A→Nat→A)(n:Nat)(x:jw A)(p:Int×Int×Unit):jw A:=
 if x.dn.getD (gE p.1 n) true then ⟨tell x.a (x.us+1),x.st,x.dn,x.us+1⟩
 else ⟨tell (step x.a (gE p.1 n) p.2.1).1 (x.us+1),x.st.set (gE p.1 n) (wr (x.st.getD (gE p.1 n) 0+1)),x.dn.set (gE p.1 n) (step x.a (gE p.1 n) p.2.1).2,x.us+1⟩
def iB{A:Type}(step:A→Nat→Int→A×Bool)(tell:A→Nat→A)(n:Nat):List (Int×Int×Unit)→jw A→jw A
 | [],x=>x
 |p::ps,x=>if x.dn.all id then x else iB step tell n ps (kJ step tell n x p)
structure AWorld where
 A:Type
 S:Type
 abs:S→A
 B:S→Hp
 L:List AV
 mt:TypeId
 mx:AV
 step:A→Nat→Int→A×Bool
 tell:A→Nat→A
 free:Nat→A→Prop
 keeps:∀n a i d,n<100000→free n a→i<L.length→free (n+1) (step a i d).1
 told:∀n a k,free n a→free n (tell a k)
 more:∀n a,free n a→free (n+1) a
 mach : ∀ i (h : i < L.length), L[i] = .nilif ∨ ∃ t r, L[i] = .iface t (.ptr r 0) ∧ ∃ g, Meth Tryz.prog t "Step" g ∧
  ∀(n:Nat) (s:S) (d:Int) (σ:Hp),n<100000→free n (abs s)→ACalls Tryz.prog g [.ptr r 0,.iface mt mx,.int .i64 d] (B s++σ) (fun x σ'=>∃s',abs s'=(step (abs s) i d).1∧x=.bool (step (abs s) i d).2∧σ'=B s'++σ)
abbrev AWorld.mv(W:AWorld):AV:=.iface W.mt W.mx
def AWorld.init(W:AWorld)(a:W.A):jw W.A:=⟨a,List.replicate W.L.length 0,W.L.map isNil,0⟩
theorem AWorld.aStep (W : AWorld) (fr : Hp) {n : Nat} {s : W.S} {σ : Hp} {K : AV → Hp → Prop} {i r : Nat} {t : TypeId} {g : FuncId} {d : Int} (hMe : Meth Tryz.prog t "Step" g)
  (eO:∀(n:Nat) (s:W.S) (d:Int) (σ:Hp),n<100000→W.free n (W.abs s)→ACalls Tryz.prog g [.ptr r 0,.iface W.mt W.mx,.int .i64 d] (W.B s++σ) (fun x σ'=>∃s',W.abs s'=(W.step (W.abs s) i d).1∧x=.bool (W.step (W.abs s) i d).2∧σ'=W.B s'++σ))
  (hn : n < 100000) (hf : W.free n (W.abs s)) (k : ∀ s', W.abs s' = (W.step (W.abs s) i d).1 → K (.bool (W.step (W.abs s) i d).2) (fr ++ (W.B s' ++ σ))) : InvAt Tryz.prog t "Step" (.ptr r 0) fun g u => CallAt Tryz.prog g K [u, W.mv, .int .i64 d] (fr ++ (W.B s ++ σ)) := by
 refine .mk g hMe (.perm _ (ot fr (W.B s) σ) (eO n s d (fr++σ) hn hf) ?_);rintro r σ' ⟨s',h3,rfl,rfl⟩;exact⟨_,(ot fr (W.B s') σ).symm,k s' h3⟩
def AWorld.run(W:AWorld)(ar:List (Int×Int×Unit))(a:W.A):jw W.A:=iB W.step W.tell W.L.length ar (W.init a)
def BH(W:AWorld)(ar:List (Int×Int×Unit))(a:W.A)(fr σ:Hp):AV→Hp→Prop:=fun x σ'=>∃s',W.abs s'=(W.run ar a).a∧x=.agg [.ae (.int .i64) (W.run ar a).st,.ae .bool (W.run ar a).dn,.int .i64 (W.run ar a).us]∧σ'=fr++(W.B s'++σ)
theorem fY{b off len es:Nat}{e:Sh}{l:List e.T}{x1 x2 x3 y1 y2 y3:AV}(h1:eB b off len es e l x1 y1)(h2:eB b off len es e l x2 y2)(h3:eB b off len es e l x3 y3)(l1:y1.leaf=true)(l2:y2.leaf=true)(l3:y3.leaf=true):eB b off len es e l (.agg [x1,x2,x3]) (.agg [y1,y2,y3]):=by
 refine .agg _ _ rfl (fun i y hy=>?_) (fun i x y hx hy=>?_)
 ·match i,hy with
  | 0,hy=>cases hy;exact l1
  | 1,hy=>cases hy;exact l2
  | 2,hy=>cases hy;exact l3
  |i+3,hy=>cases hy
 ·match i,hx,hy with
  | 0,hx,hy=>cases hx;cases hy;exact h1
  | 1,hx,hy=>cases hx;cases hy;exact h2
  | 2,hx,hy=>cases hx;cases hy;exact h3
  |i+3,hx,hy=>cases hx
theorem Qr:∀(ws:List Int),jb ws=ws.flatMap (Sh.cells (.int .i64))
 | []=>rfl
 |z::ws=>congrArg (AV.int .i64 z :: ·) (Qr ws)
theorem Rj:∀(ws:List Bool),hY ws=ws.flatMap (Sh.cells .bool)
 | []=>rfl
 |z::ws=>congrArg (AV.bool z :: ·) (Rj ws)
theorem mK{l:List Int}{n:Nat}(h:l.length=n):((jb l).drop 0).take (n*1)=l.flatMap (Sh.cells (.int .i64)):=by
 rw[fy,← Qr];exact List.take_of_length_le (by simp[jb,h])
theorem mN{l:List Bool}{n:Nat}(h:l.length=n):((hY l).drop 0).take (n*1)=l.flatMap (Sh.cells .bool):=by
 rw[fy,← Rj];exact List.take_of_length_le (by simp[hY,h])
def mm(W:AWorld)(ar:List (Int×Int×Unit))(a0:W.A)(x:W.S×List Int×List Bool×Nat):Prop:=
 x.2.2.2≤ar.length∧x.2.1.length=W.L.length∧x.2.2.1.length=W.L.length∧(∀i (h:i<W.L.length),W.L[i]=.nilif→x.2.2.1[i]?=some true)∧W.free x.2.2.2 (W.abs x.1)∧iB W.step W.tell W.L.length (ar.drop x.2.2.2) ⟨W.abs x.1,x.2.1,x.2.2.1,x.2.2.2⟩=W.run ar a0
theorem acb{A:Type}{step:A→Nat→Int→A×Bool}{tell:A→Nat→A}{n:Nat}(l:List (Int×Int×Unit)){x:jw A}(h:x.dn.all id=true):iB step tell n l x=x:=by
 cases l with
 |nil=>rfl
 |cons p ps=>rw[iB,az h]
theorem Fe{A:Type}{step:A→Nat→Int→A×Bool}{tell:A→Nat→A}{n:Nat}(p:Int×Int×Unit)(ps:List (Int×Int×Unit)){x:jw A}(h:x.dn.all id=false):iB step tell n (p::ps) x=iB step tell n ps (kJ step tell n x p):=by
 rw[iB,aB (by rw[h];decide)]
theorem mM{W:AWorld}{ar:List (Int×Int×Unit)}{a0:W.A}{s:W.S}{st:List Int}{dn:List Bool}{us:Nat}(h:mm W ar a0 (s,st,dn,us))(he:us=ar.length∨dn.all id=true):W.run ar a0=⟨W.abs s,st,dn,us⟩:=by
 obtain⟨_,_,_,_,_,hg⟩:=h;rw[← hg]
 rcases he with he | he
 ·show iB _ _ _ (ar.drop us) _=_;rw[he,HR];rfl
 ·exact acb _ he
theorem FD{dn:List Bool}{i:Nat}{b d:Bool}(h:i<dn.length)(hd:dn[i]=b):dn.getD i d=b:=by
 rw[bK,bu h,hd];rfl
theorem Fb{W:AWorld}{ar:List (Int×Int×Unit)}{a0:W.A}{s:W.S}{st:List Int}{dn:List Bool}{us i:Nat}{pw pd:Int}{pu:Unit}(h:mm W ar a0 (s,st,dn,us))(lO:∀a k,W.tell a k=a)(bh:dn.all id=false)(cQ:us<ar.length)(cY:(pw,pd,pu)=ar[us])(hi:i=gE pw W.L.length)(cq:i<dn.length)(hd:dn[i]=true):mm W ar a0 (s,st,dn,us+1):=by
 obtain⟨h1,h2,h3,h4,h5,hg⟩:=h;refine⟨cQ,h2,h3,h4,W.more _ _ h5,?_⟩;rw[← hg];show iB _ _ _ (ar.drop (us+1)) _=iB _ _ _ (ar.drop us) _;rw[tQ cQ,← cY,Fe _ _ bh];unfold kJ;dsimp only;rw[← hi,az (FD cq hd),lO]
theorem wg{W:AWorld}{ar:List (Int×Int×Unit)}{a0:W.A}{s s':W.S}{st:List Int}{dn:List Bool}{us i:Nat}{pw pd:Int}{pu:Unit}(h:mm W ar a0 (s,st,dn,us))(lO:∀a k,W.tell a k=a)(bh:dn.all id=false)(cQ:us<ar.length)(L8:us<100000)(cY:(pw,pd,pu)=ar[us])(hi:i=gE pw W.L.length)(cq:i<W.L.length){CS:i<dn.length}(hd:dn[i]=false)(cC:W.abs s'=(W.step (W.abs s) i pd).1):
  mm W ar a0 (s',st.set i (wr (st.getD i 0+1)),dn.set i (W.step (W.abs s) i pd).2,us+1):=by
 obtain⟨h1,h2,h3,h4,h5,hg⟩:=h;refine⟨cQ,(dY ..).trans h2,(dY ..).trans h3,?_,?_,?_⟩
 ·intro k hk hm;have:=h4 k hk hm;show (dn.set i _)[k]?=some true;rw[gQ];split
  ·rename_i he
   subst he;rw[bu CS,hd]at this;cases this
  ·exact this
 ·show W.free (us+1) (W.abs s');rw[cC];exact W.keeps _ _ _ _ L8 h5 cq
 ·rw[← hg];show iB _ _ _ (ar.drop (us+1)) _=iB _ _ _ (ar.drop us) _;rw[tQ cQ,← cY,Fe _ _ bh];unfold kJ;dsimp only;rw[← hi,aB (by rw[FD CS hd];decide),lO,← cC]
theorem afH(W:AWorld)(lb:Nat)(ar:List (Int×Int×Unit))(s0:W.S)(σ:Hp)(hn:W.L.length≤100000)(hs:ar.length≤100000)(hf:W.free 0 (W.abs s0))(lO:∀a k,W.tell a k=a):
  ACalls Tryz.prog 140 [W.mv,.af lb 0 W.L.length 1,.ae (.field (.int .i64) (.field (.int .i64) .nil)) ar,.iE] ((lb,W.L)::(W.B s0++σ)) (BH W ar (W.abs s0) [(lb,W.L)] σ):=by
 obtain⟨a0,eR⟩:∃a0,a0=W.abs s0:=⟨_,rfl⟩
 rw[← eR];obtain⟨z,oc⟩:∃z,z=s0:=⟨_,rfl⟩
 subst oc;refine ao Tryz.func140 ?_;intro ax
 refine .meet (S:=Nat×Nat×Nat) (fun s=>[(0,W.mv),(1,.af lb 0 W.L.length 1),(2,.ae (.field (.int .i64) (.field (.int .i64) .nil)) ar),(3,.iE),(8,.ptr ax 0),(9,.ptr s.1 0)])
  (fun s=>(s.1,[.af s.2.1 0 W.L.length 1,.af s.2.2 0 W.L.length 1,.int .i64 0])::(s.2.1,cP [.int .i64 0] W.L.length)::(s.2.2,cP [.bool false] W.L.length)::(ax,[.ag,.ag,.int .i64 0])::(lb,W.L)::(W.B z++σ)) (by kernel_rfl) ?_ ?_
 ·repeat' first
   |exact cX.mk (_,_,_) ⟨rfl,rfl,rfl,rfl,rfl,rfl,trivial⟩ (aL rfl)
   |exact cX.mk (_,_,_) ⟨rfl,rfl,rfl,rfl,rfl,rfl,trivial⟩ (.pull [2,2,1] (aL rfl))
   |exact cX.mk (_,_,_) ⟨rfl,rfl,rfl,rfl,rfl,rfl,trivial⟩ (.pull [2,1,2] (aL rfl))
   |exact cX.mk (_,_,_) ⟨rfl,rfl,rfl,rfl,rfl,rfl,trivial⟩ (.pull [2,2,0] (aL rfl))
   |exact cX.mk (_,_,_) ⟨rfl,rfl,rfl,rfl,rfl,rfl,trivial⟩ (.pull [2,1,1] (aL rfl))
   |exact cX.mk (_,_,_) ⟨rfl,rfl,rfl,rfl,rfl,rfl,trivial⟩ (.pull [2,1,0] (aL rfl))
   |refine And.intro ?_ ?_
   |refine a8 ?_
   |refine ah 0 ?_
   |refine ah 1 ?_
   |refine ah 2 ?_
   |intro b
 rintro⟨br,ba,bd⟩ g;refine aw [] (dI _ _ _) ?_;obtain⟨us,dU⟩:∃us:Nat,us=0:=⟨_,rfl⟩
 obtain⟨st,aq⟩:∃st,st=(List.replicate W.L.length 0:List Int):=⟨_,rfl⟩
 refine bc (S:=Nat) (fun s=>[(0,W.mv),(1,.af lb 0 W.L.length 1),(2,.ae (.field (.int .i64) (.field (.int .i64) .nil)) ar),(3,.iE),(8,.ptr ax 0),(9,.ptr br 0),(23,.af lb 0 W.L.length 1),(24,.int .i64 W.L.length),(25,.int .i64 s)])
  (fun s=>(br,[.af ba 0 W.L.length 1,.af bd 0 W.L.length 1,.int .i64 us])::(ba,jb st)::(bd,hY (qy W.L s))::(ax,[.ag,.ag,.int .i64 0])::(lb,W.L)::(W.B z++σ)) (fun s=>s≤W.L.length) (fun s=>W.L.length-s) 0 ⟨aV _,⟨rfl,rfl,rfl,rfl,rfl,rfl,rfl,rfl,rfl,trivial⟩,by rw[Rg,← RM,aq,← RL,dU];rfl⟩ ?_
 intro k g hk;have hk:k≤W.L.length:=hk;refine ai (fun ab=>?_) (fun ak=>?_)
 ·have ab:(k:Int)<W.L.length:=ab;have ab:k<W.L.length:=by omega
  refine aH ?_
  rcases W.mach k ab with hm | ⟨t,r,hm,_⟩
  ·refine ec.mk 4 _ (AV.nilif) rfl (qL ab hm) ?_;refine .sched [] (upto [] 7 0) (by kernel_rfl) ?_;refine aa 0 ?_;refine aH ?_;refine bM 2 rfl (kF _ (by rw[ze _ _ hk];omega)) ?_;refine aM (k+1) ?_ ab ⟨rfl,rfl,rfl,rfl,rfl,rfl,rfl,rfl,aI (by omega),trivial⟩ (aL ?_)
   ·show W.L.length-(k+1)<W.L.length-k;omega
   ·rw[← FF _ _ ab,hm];rfl
  ·refine ec.mk 4 _ (AV.iface t (.ptr r 0)) rfl (qL ab hm) ?_;refine .sched [] (upto [] 7 0) (by kernel_rfl) ?_;refine aa 0 ?_;refine aH ?_;refine bM 2 rfl (kF _ (by rw[ze _ _ hk];omega)) ?_;refine aM (k+1) ?_ ab ⟨rfl,rfl,rfl,rfl,rfl,rfl,rfl,rfl,aI (by omega),trivial⟩ (aL ?_)
   ·show W.L.length-(k+1)<W.L.length-k;omega
   ·rw[← FF _ _ ab,hm];rfl
 ·have ak:¬(k:Int)<W.L.length:=ak;obtain rfl:k=W.L.length:=by omega
  obtain⟨dn,mC⟩:∃dn,dn=qy W.L W.L.length:=⟨_,rfl⟩
  rw[← mC];have cu:dn.length=W.L.length:=by rw[mC];exact ze _ _ (bg _)
  have bP:st.length=W.L.length:=by rw[aq,gh]
  have jY:∀i (h:i<W.L.length),W.L[i]=.nilif→dn[i]?=some true:=by
   intro i h hm;rw[mC,FG,fD,bu h,hm];rfl
  obtain⟨s,dG⟩:∃s,s=z:=⟨_,rfl⟩
  subst dG
  have hI:mm W ar a0 (s,st,dn,us):=by
   exact⟨by show us≤_;omega,bP,cu,jY,dU▸hf,by rw[dU,mC,FG,aq,eR];rfl⟩
  have ⟨dU,bP,cu,jY,hf,yM⟩:=hI;have dU:us≤ar.length:=dU;have bP:st.length=W.L.length:=bP;have cu:dn.length=W.L.length:=cu;have hF:=fun σ=>wG (.af ba 0 W.L.length 1) us bd dn σ (by omega);rw[cu]at hF;refine aa 0 ?_;refine ai (fun c1=>?_) (fun c1=>?_)
  ·have c1:(↑us:Int)=(↑ar.length:Int):=c1;have hE:=mM hI (.inl (by show us=_;omega));refine aa 0 ?_;refine ah 3 ?_;refine aa 3 ?_;refine .cb 1 ba 0 W.L.length 1 _ (.int .i64) st rfl (mK bP) ⟨bP,rfl,by decide⟩ (fY .here (.refl _) (.refl _) rfl rfl rfl) ?_;refine .cb 1 bd 0 W.L.length 1 _ .bool dn rfl (mN cu) ⟨cu,rfl,by decide⟩ (fY (.refl _) .here (.refl _) rfl rfl rfl) ?_;exact .drop 0 2 (.done ⟨s,by rw[hE],by rw[hE],rfl⟩)
  ·have c1:¬((↑us:Int)=(↑ar.length:Int)):=c1;refine aa 0 ?_;refine aw [2] (hF _) ?_;cases bh:dn.all id with
   |true=>
    have hE:=mM hI (.inr bh);refine aa 1 ?_;refine ah 3 ?_;refine aa 3 ?_;refine .cb 2 ba 0 W.L.length 1 _ (.int .i64) st rfl (mK bP) ⟨bP,rfl,by decide⟩ (fY .here (.refl _) (.refl _) rfl rfl rfl) ?_;refine .cb 0 bd 0 W.L.length 1 _ .bool dn rfl (mN cu) ⟨cu,rfl,by decide⟩ (fY (.refl _) .here (.refl _) rfl rfl rfl) ?_;exact .drop 0 2 (.done ⟨s,by rw[hE],by rw[hE],rfl⟩)
   |false=>
    refine aa 1 ?_;refine aF.mk rfl ?_;have cQ:us<ar.length:=by omega
    have eu:AV.int .i64 (IntKind.i64.wrap ((us:Int)+1))=AV.int .i64 ((us+1:Nat):Int):=aI (by omega);obtain⟨pk,cY⟩:∃pk,pk=ar[us]:=⟨_,rfl⟩
    obtain⟨pw,pd,pu⟩:=pk
    have ep:0<W.L.length:=by
     rcases px W.L.length with h0 | h0
     ·rw[fE.1 (cu.trans h0)]at bh;cases bh
     ·exact h0
    refine aY.mk (pw,pd,pu) (by omega) ((get_some cQ).trans (congrArg some cY.symm)) ?_;obtain⟨i,hi⟩:∃i,i=gE pw W.L.length:=⟨_,rfl⟩
    have cq:i<W.L.length:=by rw[hi];exact uf ep
    have jD:=fun σ=>wF pw pd W.L.length σ (by omega);rw[← hi]at jD;intro bp;refine ah 0 ?_;refine aa 0 ?_;refine aw [] (jD _) ?_;refine aa 2 ?_;refine aH ?_;cases hd:dn[i] with
    |true=>
     refine aS 1 rfl (lI (by omega) hd) ?_;refine aa 2 ?_;refine ah 2 ?_;refine .loop (S:=W.S×List Int×List Bool×Nat) (fun _=>0) (fun _=>[(0,W.mv),(1,.af lb 0 W.L.length 1),(2,.ae (.field (.int .i64) (.field (.int .i64) .nil)) ar),(3,.iE),(8,.ptr ax 0),(9,.ptr br 0)]) (fun x=>(br,[.af ba 0 W.L.length 1,.af bd 0 W.L.length 1,.int .i64 x.2.2.2])::(ba,jb x.2.1)::(bd,hY x.2.2.1)::(ax,[.ag,.ag,.int .i64 0])::(lb,W.L)::(W.B x.1++σ)) (mm W ar a0) (fun x=>ar.length-x.2.2.2) (s,st,dn,us+1) ⟨rfl,(Fb hI lO bh cQ cY hi (by omega) hd),⟨rfl,rfl,rfl,rfl,rfl,rfl,trivial⟩,.drop 0 1 (.pull [2,2,0] (aL ?_))⟩ ?_
     ·show _=(br,[AV.af ba 0 W.L.length 1,AV.af bd 0 W.L.length 1,AV.int .i64 ((us+1:Nat):Int)])::_;rw[← eu];rfl
     rintro⟨s,st,dn,us⟩ g hI;have ⟨dU,bP,cu,jY,hf,yM⟩:=hI;have dU:us≤ar.length:=dU;have bP:st.length=W.L.length:=bP;have cu:dn.length=W.L.length:=cu;have hF:=fun σ=>wG (.af ba 0 W.L.length 1) us bd dn σ (by omega);rw[cu]at hF;refine aa 0 ?_;refine ai (fun c1=>?_) (fun c1=>?_)
     ·have c1:(↑us:Int)=(↑ar.length:Int):=c1;have hE:=mM hI (.inl (by show us=_;omega));refine aa 0 ?_;refine ah 3 ?_;refine aa 3 ?_;refine .cb 1 ba 0 W.L.length 1 _ (.int .i64) st rfl (mK bP) ⟨bP,rfl,by decide⟩ (fY .here (.refl _) (.refl _) rfl rfl rfl) ?_;refine .cb 1 bd 0 W.L.length 1 _ .bool dn rfl (mN cu) ⟨cu,rfl,by decide⟩ (fY (.refl _) .here (.refl _) rfl rfl rfl) ?_;exact .drop 0 2 (.done ⟨s,by rw[hE],by rw[hE],rfl⟩)
     ·have c1:¬((↑us:Int)=(↑ar.length:Int)):=c1;refine aa 0 ?_;refine aw [2] (hF _) ?_;cases bh:dn.all id with
      |true=>
       have hE:=mM hI (.inr bh);refine aa 1 ?_;refine ah 3 ?_;refine aa 3 ?_;refine .cb 2 ba 0 W.L.length 1 _ (.int .i64) st rfl (mK bP) ⟨bP,rfl,by decide⟩ (fY .here (.refl _) (.refl _) rfl rfl rfl) ?_;refine .cb 0 bd 0 W.L.length 1 _ .bool dn rfl (mN cu) ⟨cu,rfl,by decide⟩ (fY (.refl _) .here (.refl _) rfl rfl rfl) ?_;exact .drop 0 2 (.done ⟨s,by rw[hE],by rw[hE],rfl⟩)
      |false=>
       refine aa 1 ?_;refine aF.mk rfl ?_;have cQ:us<ar.length:=by omega
       have eu:AV.int .i64 (IntKind.i64.wrap ((us:Int)+1))=AV.int .i64 ((us+1:Nat):Int):=aI (by omega);obtain⟨pk,cY⟩:∃pk,pk=ar[us]:=⟨_,rfl⟩
       obtain⟨pw,pd,pu⟩:=pk
       have ep:0<W.L.length:=by
        rcases px W.L.length with h0 | h0
        ·rw[fE.1 (cu.trans h0)]at bh;cases bh
        ·exact h0
       refine aY.mk (pw,pd,pu) (by omega) ((get_some cQ).trans (congrArg some cY.symm)) ?_;obtain⟨i,hi⟩:∃i,i=gE pw W.L.length:=⟨_,rfl⟩
       have cq:i<W.L.length:=by rw[hi];exact uf ep
       have jD:=fun σ=>wF pw pd W.L.length σ (by omega);rw[← hi]at jD;intro bp;refine ah 0 ?_;refine aa 0 ?_;refine aw [] (jD _) ?_;refine aa 2 ?_;refine aH ?_;cases hd:dn[i] with
       |true=>
        refine aS 1 rfl (lI (by omega) hd) ?_;refine aa 2 ?_;refine ah 2 ?_;refine .mk (s,st,dn,us+1) rfl (by show ar.length-(us+1)<ar.length-us;omega) (Fb hI lO bh cQ cY hi (by omega) hd) ⟨rfl,rfl,rfl,rfl,rfl,rfl,trivial⟩ (.drop 0 1 (.pull [2,2,0] (aL ?_)));show _=(br,[AV.af ba 0 W.L.length 1,AV.af bd 0 W.L.length 1,AV.int .i64 ((us+1:Nat):Int)])::_;rw[← eu];rfl
       |false=>
        refine aS 1 rfl (lI (by omega) hd) ?_
        rcases W.mach i cq with hm | ⟨t,r,hm,gS,hMe,eO⟩
        ·have:=jY i cq hm;rw[bu (by show i<dn.length;omega)]at this;exact absurd (hd.symm.trans (Option.some.inj this)) (by decide)
        refine .sched [] (kl [0,2,3,4,5,6,7,8,9] (.alt 1 (ca [10,11,12]) (ca [10,1,11,12]))) (by kernel_rfl) ?_;refine aH ?_;refine ec.mk 5 _ (AV.iface t (.ptr r 0)) rfl (qL cq hm) ?_;refine aa 0 ?_;refine And.intro ?_ ?_
        ·refine aa 2 ?_;refine W.aStep [_,_,_,_,_,_] hMe eO (n:=us) (by omega) hf fun s' cC=>?_;refine aH ?_;refine bM 1 rfl (kF _ (by omega)) ?_;refine aa 2 ?_;refine aH ?_;refine aS 3 rfl (mJ (by omega)) ?_;refine aH ?_;refine bM 3 rfl (mI _ (by omega)) ?_;refine aa 2 ?_;refine ah 2 ?_;refine .mk (s',(st.set i (wr (st.getD i 0+1))),(dn.set i (W.step (W.abs s) i pd).2),us+1) rfl (by show ar.length-(us+1)<ar.length-us;omega) (wg hI lO bh cQ (by omega) cY hi cq hd cC) ⟨rfl,rfl,rfl,rfl,rfl,rfl,trivial⟩ (.drop 0 1 (.pull [2,2,0] (aL ?_)));show _=(br,[AV.af ba 0 W.L.length 1,AV.af bd 0 W.L.length 1,AV.int .i64 ((us+1:Nat):Int)])::_;rw[← eu];rfl
        ·refine W.aStep [_,_,_,_,_,_] hMe eO (n:=us) (by omega) hf fun s' cC=>?_;refine aa 2 ?_;refine aH ?_;refine bM 1 rfl (kF _ (by omega)) ?_;refine aa 2 ?_;refine aH ?_;refine aS 3 rfl (mJ (by omega)) ?_;refine aH ?_;refine bM 3 rfl (mI _ (by omega)) ?_;refine aa 2 ?_;refine ah 2 ?_;refine .mk (s',(st.set i (wr (st.getD i 0+1))),(dn.set i (W.step (W.abs s) i pd).2),us+1) rfl (by show ar.length-(us+1)<ar.length-us;omega) (wg hI lO bh cQ (by omega) cY hi cq hd cC) ⟨rfl,rfl,rfl,rfl,rfl,rfl,trivial⟩ (.drop 0 1 (.pull [2,2,0] (aL ?_)));show _=(br,[AV.af ba 0 W.L.length 1,AV.af bd 0 W.L.length 1,AV.int .i64 ((us+1:Nat):Int)])::_;rw[← eu];rfl
    |false=>
     refine aS 1 rfl (lI (by omega) hd) ?_
     rcases W.mach i cq with hm | ⟨t,r,hm,gS,hMe,eO⟩
     ·have:=jY i cq hm;rw[bu (by show i<dn.length;omega)]at this;exact absurd (hd.symm.trans (Option.some.inj this)) (by decide)
     refine .sched [] (kl [0,2,3,4,5,6,7,8,9] (.alt 1 (ca [10,11,12]) (ca [10,1,11,12]))) (by kernel_rfl) ?_;refine aH ?_;refine ec.mk 5 _ (AV.iface t (.ptr r 0)) rfl (qL cq hm) ?_;refine aa 0 ?_;refine And.intro ?_ ?_
     ·refine aa 2 ?_;refine W.aStep [_,_,_,_,_,_] hMe eO (n:=us) (by omega) hf fun s' cC=>?_;refine aH ?_;refine bM 1 rfl (kF _ (by omega)) ?_;refine aa 2 ?_;refine aH ?_;refine aS 3 rfl (mJ (by omega)) ?_;refine aH ?_;refine bM 3 rfl (mI _ (by omega)) ?_;refine aa 2 ?_;refine ah 2 ?_;refine .loop (S:=W.S×List Int×List Bool×Nat) (fun _=>0) (fun _=>[(0,W.mv),(1,.af lb 0 W.L.length 1),(2,.ae (.field (.int .i64) (.field (.int .i64) .nil)) ar),(3,.iE),(8,.ptr ax 0),(9,.ptr br 0)]) (fun x=>(br,[.af ba 0 W.L.length 1,.af bd 0 W.L.length 1,.int .i64 x.2.2.2])::(ba,jb x.2.1)::(bd,hY x.2.2.1)::(ax,[.ag,.ag,.int .i64 0])::(lb,W.L)::(W.B x.1++σ)) (mm W ar a0) (fun x=>ar.length-x.2.2.2) (s',(st.set i (wr (st.getD i 0+1))),(dn.set i (W.step (W.abs s) i pd).2),us+1) ⟨rfl,(wg hI lO bh cQ (by omega) cY hi cq hd cC),⟨rfl,rfl,rfl,rfl,rfl,rfl,trivial⟩,.drop 0 1 (.pull [2,2,0] (aL ?_))⟩ ?_
      ·show _=(br,[AV.af ba 0 W.L.length 1,AV.af bd 0 W.L.length 1,AV.int .i64 ((us+1:Nat):Int)])::_;rw[← eu];rfl
      rintro⟨s,st,dn,us⟩ g hI;have ⟨dU,bP,cu,jY,hf,yM⟩:=hI;have dU:us≤ar.length:=dU;have bP:st.length=W.L.length:=bP;have cu:dn.length=W.L.length:=cu;have hF:=fun σ=>wG (.af ba 0 W.L.length 1) us bd dn σ (by omega);rw[cu]at hF;refine aa 0 ?_;refine ai (fun c1=>?_) (fun c1=>?_)
      ·have c1:(↑us:Int)=(↑ar.length:Int):=c1;have hE:=mM hI (.inl (by show us=_;omega));refine aa 0 ?_;refine ah 3 ?_;refine aa 3 ?_;refine .cb 1 ba 0 W.L.length 1 _ (.int .i64) st rfl (mK bP) ⟨bP,rfl,by decide⟩ (fY .here (.refl _) (.refl _) rfl rfl rfl) ?_;refine .cb 1 bd 0 W.L.length 1 _ .bool dn rfl (mN cu) ⟨cu,rfl,by decide⟩ (fY (.refl _) .here (.refl _) rfl rfl rfl) ?_;exact .drop 0 2 (.done ⟨s,by rw[hE],by rw[hE],rfl⟩)
      ·have c1:¬((↑us:Int)=(↑ar.length:Int)):=c1;refine aa 0 ?_;refine aw [2] (hF _) ?_;cases bh:dn.all id with
       |true=>
        have hE:=mM hI (.inr bh);refine aa 1 ?_;refine ah 3 ?_;refine aa 3 ?_;refine .cb 2 ba 0 W.L.length 1 _ (.int .i64) st rfl (mK bP) ⟨bP,rfl,by decide⟩ (fY .here (.refl _) (.refl _) rfl rfl rfl) ?_;refine .cb 0 bd 0 W.L.length 1 _ .bool dn rfl (mN cu) ⟨cu,rfl,by decide⟩ (fY (.refl _) .here (.refl _) rfl rfl rfl) ?_;exact .drop 0 2 (.done ⟨s,by rw[hE],by rw[hE],rfl⟩)
       |false=>
        refine aa 1 ?_;refine aF.mk rfl ?_;have cQ:us<ar.length:=by omega
        have eu:AV.int .i64 (IntKind.i64.wrap ((us:Int)+1))=AV.int .i64 ((us+1:Nat):Int):=aI (by omega);obtain⟨pk,cY⟩:∃pk,pk=ar[us]:=⟨_,rfl⟩
        obtain⟨pw,pd,pu⟩:=pk
        have ep:0<W.L.length:=by
         rcases px W.L.length with h0 | h0
         ·rw[fE.1 (cu.trans h0)]at bh;cases bh
         ·exact h0
        refine aY.mk (pw,pd,pu) (by omega) ((get_some cQ).trans (congrArg some cY.symm)) ?_;obtain⟨i,hi⟩:∃i,i=gE pw W.L.length:=⟨_,rfl⟩
        have cq:i<W.L.length:=by rw[hi];exact uf ep
        have jD:=fun σ=>wF pw pd W.L.length σ (by omega);rw[← hi]at jD;intro bp;refine ah 0 ?_;refine aa 0 ?_;refine aw [] (jD _) ?_;refine aa 2 ?_;refine aH ?_;cases hd:dn[i] with
        |true=>
         refine aS 1 rfl (lI (by omega) hd) ?_;refine aa 2 ?_;refine ah 2 ?_;refine .mk (s,st,dn,us+1) rfl (by show ar.length-(us+1)<ar.length-us;omega) (Fb hI lO bh cQ cY hi (by omega) hd) ⟨rfl,rfl,rfl,rfl,rfl,rfl,trivial⟩ (.drop 0 1 (.pull [2,2,0] (aL ?_)));show _=(br,[AV.af ba 0 W.L.length 1,AV.af bd 0 W.L.length 1,AV.int .i64 ((us+1:Nat):Int)])::_;rw[← eu];rfl
        |false=>
         refine aS 1 rfl (lI (by omega) hd) ?_
         rcases W.mach i cq with hm | ⟨t,r,hm,gS,hMe,eO⟩
         ·have:=jY i cq hm;rw[bu (by show i<dn.length;omega)]at this;exact absurd (hd.symm.trans (Option.some.inj this)) (by decide)
         refine .sched [] (kl [0,2,3,4,5,6,7,8,9] (.alt 1 (ca [10,11,12]) (ca [10,1,11,12]))) (by kernel_rfl) ?_;refine aH ?_;refine ec.mk 5 _ (AV.iface t (.ptr r 0)) rfl (qL cq hm) ?_;refine aa 0 ?_;refine And.intro ?_ ?_
         ·refine aa 2 ?_;refine W.aStep [_,_,_,_,_,_] hMe eO (n:=us) (by omega) hf fun s' cC=>?_;refine aH ?_;refine bM 1 rfl (kF _ (by omega)) ?_;refine aa 2 ?_;refine aH ?_;refine aS 3 rfl (mJ (by omega)) ?_;refine aH ?_;refine bM 3 rfl (mI _ (by omega)) ?_;refine aa 2 ?_;refine ah 2 ?_;refine .mk (s',(st.set i (wr (st.getD i 0+1))),(dn.set i (W.step (W.abs s) i pd).2),us+1) rfl (by show ar.length-(us+1)<ar.length-us;omega) (wg hI lO bh cQ (by omega) cY hi cq hd cC) ⟨rfl,rfl,rfl,rfl,rfl,rfl,trivial⟩ (.drop 0 1 (.pull [2,2,0] (aL ?_)));show _=(br,[AV.af ba 0 W.L.length 1,AV.af bd 0 W.L.length 1,AV.int .i64 ((us+1:Nat):Int)])::_;rw[← eu];rfl
         ·refine W.aStep [_,_,_,_,_,_] hMe eO (n:=us) (by omega) hf fun s' cC=>?_;refine aa 2 ?_;refine aH ?_;refine bM 1 rfl (kF _ (by omega)) ?_;refine aa 2 ?_;refine aH ?_;refine aS 3 rfl (mJ (by omega)) ?_;refine aH ?_;refine bM 3 rfl (mI _ (by omega)) ?_;refine aa 2 ?_;refine ah 2 ?_;refine .mk (s',(st.set i (wr (st.getD i 0+1))),(dn.set i (W.step (W.abs s) i pd).2),us+1) rfl (by show ar.length-(us+1)<ar.length-us;omega) (wg hI lO bh cQ (by omega) cY hi cq hd cC) ⟨rfl,rfl,rfl,rfl,rfl,rfl,trivial⟩ (.drop 0 1 (.pull [2,2,0] (aL ?_)));show _=(br,[AV.af ba 0 W.L.length 1,AV.af bd 0 W.L.length 1,AV.int .i64 ((us+1:Nat):Int)])::_;rw[← eu];rfl
     ·refine W.aStep [_,_,_,_,_,_] hMe eO (n:=us) (by omega) hf fun s' cC=>?_;refine aa 2 ?_;refine aH ?_;refine bM 1 rfl (kF _ (by omega)) ?_;refine aa 2 ?_;refine aH ?_;refine aS 3 rfl (mJ (by omega)) ?_;refine aH ?_;refine bM 3 rfl (mI _ (by omega)) ?_;refine aa 2 ?_;refine ah 2 ?_;refine .loop (S:=W.S×List Int×List Bool×Nat) (fun _=>0) (fun _=>[(0,W.mv),(1,.af lb 0 W.L.length 1),(2,.ae (.field (.int .i64) (.field (.int .i64) .nil)) ar),(3,.iE),(8,.ptr ax 0),(9,.ptr br 0)]) (fun x=>(br,[.af ba 0 W.L.length 1,.af bd 0 W.L.length 1,.int .i64 x.2.2.2])::(ba,jb x.2.1)::(bd,hY x.2.2.1)::(ax,[.ag,.ag,.int .i64 0])::(lb,W.L)::(W.B x.1++σ)) (mm W ar a0) (fun x=>ar.length-x.2.2.2) (s',(st.set i (wr (st.getD i 0+1))),(dn.set i (W.step (W.abs s) i pd).2),us+1) ⟨rfl,(wg hI lO bh cQ (by omega) cY hi cq hd cC),⟨rfl,rfl,rfl,rfl,rfl,rfl,trivial⟩,.drop 0 1 (.pull [2,2,0] (aL ?_))⟩ ?_
      ·show _=(br,[AV.af ba 0 W.L.length 1,AV.af bd 0 W.L.length 1,AV.int .i64 ((us+1:Nat):Int)])::_;rw[← eu];rfl
      rintro⟨s,st,dn,us⟩ g hI;have ⟨dU,bP,cu,jY,hf,yM⟩:=hI;have dU:us≤ar.length:=dU;have bP:st.length=W.L.length:=bP;have cu:dn.length=W.L.length:=cu;have hF:=fun σ=>wG (.af ba 0 W.L.length 1) us bd dn σ (by omega);rw[cu]at hF;refine aa 0 ?_;refine ai (fun c1=>?_) (fun c1=>?_)
      ·have c1:(↑us:Int)=(↑ar.length:Int):=c1;have hE:=mM hI (.inl (by show us=_;omega));refine aa 0 ?_;refine ah 3 ?_;refine aa 3 ?_;refine .cb 1 ba 0 W.L.length 1 _ (.int .i64) st rfl (mK bP) ⟨bP,rfl,by decide⟩ (fY .here (.refl _) (.refl _) rfl rfl rfl) ?_;refine .cb 1 bd 0 W.L.length 1 _ .bool dn rfl (mN cu) ⟨cu,rfl,by decide⟩ (fY (.refl _) .here (.refl _) rfl rfl rfl) ?_;exact .drop 0 2 (.done ⟨s,by rw[hE],by rw[hE],rfl⟩)
      ·have c1:¬((↑us:Int)=(↑ar.length:Int)):=c1;refine aa 0 ?_;refine aw [2] (hF _) ?_;cases bh:dn.all id with
       |true=>
        have hE:=mM hI (.inr bh);refine aa 1 ?_;refine ah 3 ?_;refine aa 3 ?_;refine .cb 2 ba 0 W.L.length 1 _ (.int .i64) st rfl (mK bP) ⟨bP,rfl,by decide⟩ (fY .here (.refl _) (.refl _) rfl rfl rfl) ?_;refine .cb 0 bd 0 W.L.length 1 _ .bool dn rfl (mN cu) ⟨cu,rfl,by decide⟩ (fY (.refl _) .here (.refl _) rfl rfl rfl) ?_;exact .drop 0 2 (.done ⟨s,by rw[hE],by rw[hE],rfl⟩)
       |false=>
        refine aa 1 ?_;refine aF.mk rfl ?_;have cQ:us<ar.length:=by omega
        have eu:AV.int .i64 (IntKind.i64.wrap ((us:Int)+1))=AV.int .i64 ((us+1:Nat):Int):=aI (by omega);obtain⟨pk,cY⟩:∃pk,pk=ar[us]:=⟨_,rfl⟩
        obtain⟨pw,pd,pu⟩:=pk
        have ep:0<W.L.length:=by
         rcases px W.L.length with h0 | h0
         ·rw[fE.1 (cu.trans h0)]at bh;cases bh
         ·exact h0
        refine aY.mk (pw,pd,pu) (by omega) ((get_some cQ).trans (congrArg some cY.symm)) ?_;obtain⟨i,hi⟩:∃i,i=gE pw W.L.length:=⟨_,rfl⟩
        have cq:i<W.L.length:=by rw[hi];exact uf ep
        have jD:=fun σ=>wF pw pd W.L.length σ (by omega);rw[← hi]at jD;intro bp;refine ah 0 ?_;refine aa 0 ?_;refine aw [] (jD _) ?_;refine aa 2 ?_;refine aH ?_;cases hd:dn[i] with
        |true=>
         refine aS 1 rfl (lI (by omega) hd) ?_;refine aa 2 ?_;refine ah 2 ?_;refine .mk (s,st,dn,us+1) rfl (by show ar.length-(us+1)<ar.length-us;omega) (Fb hI lO bh cQ cY hi (by omega) hd) ⟨rfl,rfl,rfl,rfl,rfl,rfl,trivial⟩ (.drop 0 1 (.pull [2,2,0] (aL ?_)));show _=(br,[AV.af ba 0 W.L.length 1,AV.af bd 0 W.L.length 1,AV.int .i64 ((us+1:Nat):Int)])::_;rw[← eu];rfl
        |false=>
         refine aS 1 rfl (lI (by omega) hd) ?_
         rcases W.mach i cq with hm | ⟨t,r,hm,gS,hMe,eO⟩
         ·have:=jY i cq hm;rw[bu (by show i<dn.length;omega)]at this;exact absurd (hd.symm.trans (Option.some.inj this)) (by decide)
         refine .sched [] (kl [0,2,3,4,5,6,7,8,9] (.alt 1 (ca [10,11,12]) (ca [10,1,11,12]))) (by kernel_rfl) ?_;refine aH ?_;refine ec.mk 5 _ (AV.iface t (.ptr r 0)) rfl (qL cq hm) ?_;refine aa 0 ?_;refine And.intro ?_ ?_
         ·refine aa 2 ?_;refine W.aStep [_,_,_,_,_,_] hMe eO (n:=us) (by omega) hf fun s' cC=>?_;refine aH ?_;refine bM 1 rfl (kF _ (by omega)) ?_;refine aa 2 ?_;refine aH ?_;refine aS 3 rfl (mJ (by omega)) ?_;refine aH ?_;refine bM 3 rfl (mI _ (by omega)) ?_;refine aa 2 ?_;refine ah 2 ?_;refine .mk (s',(st.set i (wr (st.getD i 0+1))),(dn.set i (W.step (W.abs s) i pd).2),us+1) rfl (by show ar.length-(us+1)<ar.length-us;omega) (wg hI lO bh cQ (by omega) cY hi cq hd cC) ⟨rfl,rfl,rfl,rfl,rfl,rfl,trivial⟩ (.drop 0 1 (.pull [2,2,0] (aL ?_)));show _=(br,[AV.af ba 0 W.L.length 1,AV.af bd 0 W.L.length 1,AV.int .i64 ((us+1:Nat):Int)])::_;rw[← eu];rfl
         ·refine W.aStep [_,_,_,_,_,_] hMe eO (n:=us) (by omega) hf fun s' cC=>?_;refine aa 2 ?_;refine aH ?_;refine bM 1 rfl (kF _ (by omega)) ?_;refine aa 2 ?_;refine aH ?_;refine aS 3 rfl (mJ (by omega)) ?_;refine aH ?_;refine bM 3 rfl (mI _ (by omega)) ?_;refine aa 2 ?_;refine ah 2 ?_;refine .mk (s',(st.set i (wr (st.getD i 0+1))),(dn.set i (W.step (W.abs s) i pd).2),us+1) rfl (by show ar.length-(us+1)<ar.length-us;omega) (wg hI lO bh cQ (by omega) cY hi cq hd cC) ⟨rfl,rfl,rfl,rfl,rfl,rfl,trivial⟩ (.drop 0 1 (.pull [2,2,0] (aL ?_)));show _=(br,[AV.af ba 0 W.L.length 1,AV.af bd 0 W.L.length 1,AV.int .i64 ((us+1:Nat):Int)])::_;rw[← eu];rfl
end Go.Proofs.YtnikdflhefijbaaGreat
