import Derived.Test.YtnikdflhefijbaaGreatBn12
namespace Go.Proofs.YtnikdflhefijbaaGreat
open Go.RowKit
set_option maxRecDepth 100000
set_option maxHeartbeats 4000000
def iR(p:Int)(n:Nat):Nat:=if n<1 then 0 else (p % (n:Int)).toNat
theorem Ch{p:Int}{n:Nat}(h:0<n):iR p n<n:=by
 unfold iR
 rw[ah (by omega)]
 have h1:=Ez p (show (n:Int)≠0 by omega)
 have h2:=EF p (show (0:Int)<n by omega)
 omega
theorem abt{p:Int}{n:Nat}(h0:0<n)(hn:n≤1000000)(h:p.tmod n<0):IntKind.i64.wrap (p.tmod n+n)=((iR p n:Nat):Int):=by
 have h1:=Ez p (show (n:Int)≠0 by omega)
 have h2:=EF p (show (0:Int)<n by omega)
 have e:= @Int.tmod_eq_emod p n
 unfold iR
 rw[ah (by omega),IntKind.wrap_i64]
 split at e <;> omega
theorem abr{p:Int}{n:Nat}(h0:0<n)(h:¬p.tmod n<0):p.tmod n=((iR p n:Nat):Int):=by
 have h1:=Ez p (show (n:Int)≠0 by omega)
 have h2:=EF p (show (0:Int)<n by omega)
 have e:= @Int.tmod_eq_emod p n
 unfold iR
 rw[ah (by omega)]
 split at e <;> omega
theorem ZF{p:Int}{n:Nat}(h:(n:Int)<1):(0:Int)=((iR p n:Nat):Int):=by
 unfold iR
 rw[ai (by omega)];rfl
theorem Hs(p d:Int)(n:Nat)(σ:Hp)(hn:n≤1000000):ACalls Tryz.prog 70 [.agg [.int .i64 p,.int .i64 d],.int .i64 n] σ (aE (.int .i64 (iR p n)) σ):=by
 refine ay Tryz.func70 ?_
 intro aD
 refine an (fun c2=>?_) (fun c2=>?_)
 ·have c2:(↑n:Int)<1:=c2
  exact .drop 0 1 (.done ⟨aQ (ZF (by assumption)),rfl⟩)
 ·have c2:¬((↑n:Int)<1):=c2
  refine aa 0 ?_
  refine ag.mk (by omega) ?_
  refine an (fun c3=>?_) (fun c3=>?_)
  ·have c3:p.tmod (↑n:Int)<0:=c3
   exact .drop 0 1 (.done ⟨aQ (abt (by omega) hn (by assumption)),rfl⟩)
  ·have c3:¬(p.tmod (↑n:Int)<0):=c3
   exact .drop 0 1 (.done ⟨aQ (abr (by omega) (by assumption)),rfl⟩)
def jz(l:List Bool):List AV:=l.map AV.bool
theorem sV{dn:List Bool}{k:Nat}(h:k<dn.length){b:Bool}(hb:dn[k]=b):(jz dn)[0+((k:Int)).toNat*1]?=some (.bool b):=by
 simp[jz,h,hb]
theorem Ui{dn:List Bool}{k:Nat}(h:k<dn.length)(hd:dn[k]=false):dn.all id=false:=by
 cases ha:dn.all id with
 |false=>rfl
 |true=>
  have:=fk.1 ha _ (bX h)
  rw[hd]at this
  cases this
theorem Hw(sv:AV)(u:Int)(b:Nat)(dn:List Bool)(σ:Hp)(hn:dn.length≤1000000):ACalls Tryz.prog 42 [.agg [sv,.ae b 0 dn.length 1,.int .i64 u]] ((b,jz dn)::σ) (aE (.bool (dn.all id)) ((b,jz dn)::σ)):=by
 refine ay Tryz.func42 ?_
 intro aD
 refine aa 0 ?_
 refine bV (S:=Nat) (fun s=>[(6,.ae b 0 dn.length 1),(7,.int .i64 dn.length),(8,.int .i64 s)]) (fun _=>(aD,[sv,.ae b 0 dn.length 1,.int .i64 u])::(b,jz dn)::σ) (fun s=>s≤dn.length∧(dn.take s).all id=true) (fun s=>dn.length-s) 0 ⟨⟨bA _,rfl⟩,⟨rfl,rfl,rfl,trivial⟩,rfl⟩ ?_
 rintro k g ⟨hk,cg⟩
 refine an (fun h=>?_) (fun h=>?_)
 ·have h:(k:Int)<dn.length:=h
  have mG:k<dn.length:=by omega
  refine ag.mk ⟨rfl,by omega,by omega⟩ ?_
  cases hd:dn[k] with
  |true=>
   refine aT 1 rfl (sV mG hd) ?_
   refine a8 (k+1) ?_ ⟨mG,?_⟩ ⟨rfl,rfl,aX (by omega),trivial⟩ (aJ rfl)
   ·show dn.length-(k+1)<dn.length-k;omega
   ·rw[fp mG,zf,cg,hd];rfl
  |false=>
   refine aT 1 rfl (sV mG hd) ?_
   exact .drop 0 1 (.done ⟨congrArg AV.bool (Ui mG hd).symm,rfl⟩)
 ·have h:¬(k:Int)<dn.length:=h
  exact .drop 0 1 (.done ⟨congrArg AV.bool (by rw[← eI (show dn.length≤k by omega)];exact cg.symm),rfl⟩)
def kr(l:List Int):List AV:=l.map (AV.int .i64)
def isNil:AV→Bool
 |.nilif=>true
 |_=>false
theorem abO(n:Nat):cE [.bool false] n=jz (List.replicate n false):=by
 unfold jz
 induction n with
 |zero=>rfl
 |succ n ih=>simp[cE,ih,List.replicate_succ]
theorem abN(n:Nat):cE [.int .i64 0] n=kr (List.replicate n 0):=by
 unfold kr
 induction n with
 |zero=>rfl
 |succ n ih=>simp[cE,ih,List.replicate_succ]
def sH(L:List AV)(k:Nat):List Bool:=(L.take k).map isNil++List.replicate (L.length-k) false
theorem aaL(L:List AV):sH L 0=List.replicate L.length false:=by simp[sH]
theorem JO(L:List AV)(k:Nat)(h:k≤L.length):(sH L k).length=L.length:=by simp[sH];omega
theorem Ti(L:List AV):sH L L.length=L.map isNil:=by simp[sH]
theorem Tg(L:List AV)(k:Nat)(h:k<L.length):(sH L k).set k (isNil L[k])=sH L (k+1):=by
 unfold sH
 rw[show L.length-k=(L.length-(k+1))+1 by omega,Ow,fp h,cS]
 have hl:((L.take k).map isNil).length=k:=by simp;omega
 rw[Jj _ _ (by omega),hl,pG]
 simp
theorem Ak{L:List AV}{k:Nat}(h:k<L.length){x:AV}(hx:L[k]=x):L[0+((k:Int)).toNat*1]?=some x:=by
 rw[show 0+((k:Int)).toNat*1=k by omega,bJ h,hx]
theorem sU{dn:List Bool}{k:Nat}(b:Bool)(h:k<dn.length):kJ ⟨.bool,1,1,[.bool false]⟩ (jz dn) (0+((k:Int)).toNat*1) (.bool b)=some (jz (dn.set k b)):=by
 have e:0+((k:Int)).toNat*1=k:=by omega
 have h2:Nat.ble (k+1) (jz dn).length=true:=Nat.ble_eq_true_of_le (by simp[jz];omega)
 rw[e]
 show (match Nat.beq 1 1,Nat.ble (k+1) (jz dn).length with | true,true=>some (fS (jz dn) k [.bool b]) | _,_=>none)=_
 rw[h2]
 show some ((jz dn).set k (.bool b))=_
 rw[show (jz dn).set k (.bool b)=jz (dn.set k b) by simp[jz,List.map_set]]
theorem wA{l:List Int}{k:Nat}(h:k<l.length):(kr l)[0+((k:Int)).toNat*1]?=some (.int .i64 (l.getD k 0)):=by
 simp[kr,h,List.getD]
theorem wz{l:List Int}{k:Nat}(x:Int)(h:k<l.length):kJ ⟨.int .i64,1,8,[.int .i64 0]⟩ (kr l) (0+((k:Int)).toNat*1) (.int .i64 x)=some (kr (l.set k x)):=by
 have e:0+((k:Int)).toNat*1=k:=by omega
 have h2:Nat.ble (k+1) (kr l).length=true:=Nat.ble_eq_true_of_le (by simp[kr];omega)
 rw[e]
 show (match Nat.beq 1 1,Nat.ble (k+1) (kr l).length with | true,true=>some (fS (kr l) k [.int .i64 x]) | _,_=>none)=_
 rw[h2]
 show some ((kr l).set k (.int .i64 x))=_
 rw[show (kr l).set k (.int .i64 x)=kr (l.set k x) by simp[kr,List.map_set]]
structure jb(A:Type) where
 a:A
 st:List Int
 dn:List Bool
 us:Nat
def km{A:Type}(step:A→Nat→Int→A×Bool)(tell:A→Nat→A)(n:Nat)(x:jb A)(p:Int×Int×Unit):jb A:=
 if x.dn.getD (iR p.1 n) true then ⟨tell x.a (x.us+1),x.st,x.dn,x.us+1⟩
 else ⟨tell (step x.a (iR p.1 n) p.2.1).1 (x.us+1),x.st.set (iR p.1 n) (wr (x.st.getD (iR p.1 n) 0+1)),x.dn.set (iR p.1 n) (step x.a (iR p.1 n) p.2.1).2,x.us+1⟩
def ju{A:Type}(step:A→Nat→Int→A×Bool)(tell:A→Nat→A)(n:Nat):List (Int×Int×Unit)→jb A→jb A
 | [],x=>x
 |p::ps,x=>if x.dn.all id then x else ju step tell n ps (km step tell n x p)
structure AWorld where
 A:Type
 S:Type
 abs:S→A
 B:S→Hp
 L:List AV
 mt:TypeId
 mp:Nat
 step:A→Nat→Int→A×Bool
 tell:A→Nat→A
 free:A→Prop
 keeps:∀a i d,free a→i<L.length→free (step a i d).1
 told:∀a k,free a→free (tell a k)
 mach : ∀ i (h : i < L.length), L[i] = .nilif ∨ ∃ t r, L[i] = .iface t (.ptr r 0) ∧ ∃ g, Meth Tryz.prog t "Step" g ∧
  ∀(s:S) (d:Int) (σ:Hp),free (abs s)→ACalls Tryz.prog g [.ptr r 0,.iface mt (.ptr mp 0),.int .i64 d] (B s++σ) (fun x σ'=>∃s',abs s'=(step (abs s) i d).1∧x=.bool (step (abs s) i d).2∧σ'=B s'++σ)
abbrev AWorld.mv(W:AWorld):AV:=.iface W.mt (.ptr W.mp 0)
def AWorld.init(W:AWorld)(a:W.A):jb W.A:=⟨a,List.replicate W.L.length 0,W.L.map isNil,0⟩
theorem AWorld.aStep (W : AWorld) (fr : Hp) {s : W.S} {σ : Hp} {K : AV → Hp → Prop} {i r : Nat} {t : TypeId} {g : FuncId} {d : Int} (hMe : Meth Tryz.prog t "Step" g)
  (gJ:∀(s:W.S) (d:Int) (σ:Hp),W.free (W.abs s)→ACalls Tryz.prog g [.ptr r 0,.iface W.mt (.ptr W.mp 0),.int .i64 d] (W.B s++σ) (fun x σ'=>∃s',W.abs s'=(W.step (W.abs s) i d).1∧x=.bool (W.step (W.abs s) i d).2∧σ'=W.B s'++σ))
  (hf : W.free (W.abs s)) (k : ∀ s', W.abs s' = (W.step (W.abs s) i d).1 → K (.bool (W.step (W.abs s) i d).2) (fr ++ (W.B s' ++ σ))) : InvAt Tryz.prog t "Step" fun g => CallAt Tryz.prog g K [.ptr r 0, W.mv, .int .i64 d] (fr ++ (W.B s ++ σ)) := by
 refine⟨g,hMe,.perm _ (sN fr (W.B s) σ) (gJ s d (fr++σ) hf) ?_⟩
 rintro r σ' ⟨s',h3,rfl,rfl⟩
 exact⟨_,(sN fr (W.B s') σ).symm,k s' h3⟩
def AWorld.run(W:AWorld)(aw:List (Int×Int×Unit))(a:W.A):jb W.A:=ju W.step W.tell W.L.length aw (W.init a)
def KL(W:AWorld)(aw:List (Int×Int×Unit))(a:W.A)(fr σ:Hp):AV→Hp→Prop:=fun x σ'=>∃s',W.abs s'=(W.run aw a).a∧x=.agg [.af (.int .i64) (W.run aw a).st,.af .bool (W.run aw a).dn,.int .i64 (W.run aw a).us]∧σ'=fr++(W.B s'++σ)
theorem mX{b off len es:Nat}{e:Sh}{l:List e.T}{x1 x2 x3 y1 y2 y3:AV}(h1:ew b off len es e l x1 y1)(h2:ew b off len es e l x2 y2)(h3:ew b off len es e l x3 y3)(l1:y1.leaf=true)(l2:y2.leaf=true)(l3:y3.leaf=true):ew b off len es e l (.agg [x1,x2,x3]) (.agg [y1,y2,y3]):=by
 refine .agg _ _ rfl (fun i y hy=>?_) (fun i x y hx hy=>?_)
 ·match i,hy with
  | 0,hy=>cases hy;exact l1
  | 1,hy=>cases hy;exact l2
  | 2,hy=>cases hy;exact l3
  |i+3,hy=>cases hy
 ·match i,hx,hy with
  | 0,hx,hy=>cases hx;cases hy;exact h1
  | 1,hx,hy=>cases hx;cases hy;exact h2
  | 2,hx,hy=>cases hx;cases hy;exact h3
  |i+3,hx,hy=>cases hx
theorem Rn:∀(ws:List Int),kr ws=ws.flatMap (Sh.cells (.int .i64))
 | []=>rfl
 |z::ws=>congrArg (AV.int .i64 z :: ·) (Rn ws)
theorem Sd:∀(ws:List Bool),jz ws=ws.flatMap (Sh.cells .bool)
 | []=>rfl
 |z::ws=>congrArg (AV.bool z :: ·) (Sd ws)
theorem wC{l:List Int}{n:Nat}(h:l.length=n):((kr l).drop 0).take (n*1)=l.flatMap (Sh.cells (.int .i64)):=by
 rw[gR,← Rn]
 exact List.take_of_length_le (by simp[kr,h])
theorem wH{l:List Bool}{n:Nat}(h:l.length=n):((jz l).drop 0).take (n*1)=l.flatMap (Sh.cells .bool):=by
 rw[gR,← Sd]
 exact List.take_of_length_le (by simp[jz,h])
def uZ(W:AWorld)(aw:List (Int×Int×Unit))(a0:W.A)(x:W.S×List Int×List Bool×Nat):Prop:=
 x.2.2.2≤aw.length∧x.2.1.length=W.L.length∧x.2.2.1.length=W.L.length∧(∀i (h:i<W.L.length),W.L[i]=.nilif→x.2.2.1[i]?=some true)∧W.free (W.abs x.1)∧ju W.step W.tell W.L.length (aw.drop x.2.2.2) ⟨W.abs x.1,x.2.1,x.2.2.1,x.2.2.2⟩=W.run aw a0
theorem acu{A:Type}{step:A→Nat→Int→A×Bool}{tell:A→Nat→A}{n:Nat}(l:List (Int×Int×Unit)){x:jb A}(h:x.dn.all id=true):ju step tell n l x=x:=by
 cases l with
 |nil=>rfl
 |cons p ps=>rw[ju,ai h]
theorem R2{A:Type}{step:A→Nat→Int→A×Bool}{tell:A→Nat→A}{n:Nat}(p:Int×Int×Unit)(ps:List (Int×Int×Unit)){x:jb A}(h:x.dn.all id=false):ju step tell n (p::ps) x=ju step tell n ps (km step tell n x p):=by
 rw[ju,ah (by rw[h];decide)]
theorem wG{W:AWorld}{aw:List (Int×Int×Unit)}{a0:W.A}{s:W.S}{st:List Int}{dn:List Bool}{us:Nat}(h:uZ W aw a0 (s,st,dn,us))(he:us=aw.length∨dn.all id=true):W.run aw a0=⟨W.abs s,st,dn,us⟩:=by
 obtain⟨_,_,_,_,_,hg⟩:=h
 rw[← hg]
 rcases he with he | he
 ·show ju _ _ _ (aw.drop us) _=_
  rw[he,List.drop_length];rfl
 ·exact acu _ he
theorem S5{dn:List Bool}{i:Nat}{b d:Bool}(h:i<dn.length)(hd:dn[i]=b):dn.getD i d=b:=by
 rw[aW,bJ h,hd];rfl
theorem F6{W:AWorld}{aw:List (Int×Int×Unit)}{a0:W.A}{s:W.S}{st:List Int}{dn:List Bool}{us i:Nat}{pw pd:Int}{pu:Unit}(h:uZ W aw a0 (s,st,dn,us))(lW:∀a k,W.tell a k=a)(cg:dn.all id=false)(fK:us<aw.length)(eM:(pw,pd,pu)=aw[us])(hi:i=iR pw W.L.length)(dW:i<dn.length)(hd:dn[i]=true):uZ W aw a0 (s,st,dn,us+1):=by
 obtain⟨h1,h2,h3,h4,h5,hg⟩:=h
 refine⟨fK,h2,h3,h4,h5,?_⟩
 rw[← hg]
 show ju _ _ _ (aw.drop (us+1)) _=ju _ _ _ (aw.drop us) _
 rw[go2 fK,← eM,R2 _ _ cg]
 unfold km
 dsimp only
 rw[← hi,ai (S5 dW hd),lW]
theorem wm{W:AWorld}{aw:List (Int×Int×Unit)}{a0:W.A}{s s':W.S}{st:List Int}{dn:List Bool}{us i:Nat}{pw pd:Int}{pu:Unit}(h:uZ W aw a0 (s,st,dn,us))(lW:∀a k,W.tell a k=a)(cg:dn.all id=false)(fK:us<aw.length)(eM:(pw,pd,pu)=aw[us])(hi:i=iR pw W.L.length)(dW:i<W.L.length){Vy:i<dn.length}(hd:dn[i]=false)(dE:W.abs s'=(W.step (W.abs s) i pd).1):
  uZ W aw a0 (s',st.set i (wr (st.getD i 0+1)),dn.set i (W.step (W.abs s) i pd).2,us+1):=by
 obtain⟨h1,h2,h3,h4,h5,hg⟩:=h
 refine⟨fK,(cM ..).trans h2,(cM ..).trans h3,?_,?_,?_⟩
 ·intro k hk hm
  have:=h4 k hk hm
  show (dn.set i _)[k]?=some true
  rw[eR]
  split
  ·rename_i he
   subst he
   rw[bJ Vy,hd]at this
   cases this
  ·exact this
 ·show W.free (W.abs s')
  rw[dE];exact W.keeps _ _ _ h5 dW
 ·rw[← hg]
  show ju _ _ _ (aw.drop (us+1)) _=ju _ _ _ (aw.drop us) _
  rw[go2 fK,← eM,R2 _ _ cg]
  unfold km
  dsimp only
  rw[← hi,ah (by rw[S5 Vy hd];decide),lW,← dE]
theorem afi(W:AWorld)(lb:Nat)(aw:List (Int×Int×Unit))(s0:W.S)(σ:Hp)(hn:W.L.length≤100000)(hs:aw.length≤100000)(hf:W.free (W.abs s0))(lW:∀a k,W.tell a k=a):
  ACalls Tryz.prog 140 [W.mv,.ae lb 0 W.L.length 1,.af (.field (.int .i64) (.field (.int .i64) .nil)) aw,.iC] ((lb,W.L)::(W.B s0++σ)) (KL W aw (W.abs s0) [(lb,W.L)] σ):=by
 obtain⟨a0,mK⟩:∃a0,a0=W.abs s0:=⟨_,rfl⟩
 rw[← mK]
 obtain⟨z,nt⟩:∃z,z=s0:=⟨_,rfl⟩
 subst nt
 refine ay Tryz.func140 ?_
 intro aD
 refine .meet (S:=Nat×Nat×Nat) (fun s=>[(0,W.mv),(1,.ae lb 0 W.L.length 1),(2,.af (.field (.int .i64) (.field (.int .i64) .nil)) aw),(3,.iC),(8,.ptr aD 0),(9,.ptr s.1 0)])
  (fun s=>(s.1,[.ae s.2.1 0 W.L.length 1,.ae s.2.2 0 W.L.length 1,.int .i64 0])::(s.2.1,cE [.int .i64 0] W.L.length)::(s.2.2,cE [.bool false] W.L.length)::(aD,[.aj,.aj,.int .i64 0])::(lb,W.L)::(W.B z++σ)) (by kernel_rfl) ?_ ?_
 ·repeat' first
   |exact cR.mk (_,_,_) ⟨rfl,rfl,rfl,rfl,rfl,rfl,trivial⟩ (aJ rfl)
   |exact cR.mk (_,_,_) ⟨rfl,rfl,rfl,rfl,rfl,rfl,trivial⟩ (.pull [2,2,1] (aJ rfl))
   |exact cR.mk (_,_,_) ⟨rfl,rfl,rfl,rfl,rfl,rfl,trivial⟩ (.pull [2,1,2] (aJ rfl))
   |exact cR.mk (_,_,_) ⟨rfl,rfl,rfl,rfl,rfl,rfl,trivial⟩ (.pull [2,2,0] (aJ rfl))
   |exact cR.mk (_,_,_) ⟨rfl,rfl,rfl,rfl,rfl,rfl,trivial⟩ (.pull [2,1,1] (aJ rfl))
   |exact cR.mk (_,_,_) ⟨rfl,rfl,rfl,rfl,rfl,rfl,trivial⟩ (.pull [2,1,0] (aJ rfl))
   |refine And.intro ?_ ?_
   |refine ag.mk ⟨by omega,by omega,by omega,by decide⟩ ?_
   |refine ak 0 ?_
   |refine ak 1 ?_
   |refine ak 2 ?_
   |intro b
 rintro⟨br,ba,bd⟩ g
 refine az [] (du _ _ _) ?_
 obtain⟨us,gv⟩:∃us:Nat,us=0:=⟨_,rfl⟩
 obtain⟨st,aq⟩:∃st,st=(List.replicate W.L.length 0:List Int):=⟨_,rfl⟩
 refine bV (S:=Nat) (fun s=>[(0,W.mv),(1,.ae lb 0 W.L.length 1),(2,.af (.field (.int .i64) (.field (.int .i64) .nil)) aw),(3,.iC),(8,.ptr aD 0),(9,.ptr br 0),(23,.ae lb 0 W.L.length 1),(24,.int .i64 W.L.length),(25,.int .i64 s)])
  (fun s=>(br,[.ae ba 0 W.L.length 1,.ae bd 0 W.L.length 1,.int .i64 us])::(ba,kr st)::(bd,jz (sH W.L s))::(aD,[.aj,.aj,.int .i64 0])::(lb,W.L)::(W.B z++σ)) (fun s=>s≤W.L.length) (fun s=>W.L.length-s) 0 ⟨bA _,⟨rfl,rfl,rfl,rfl,rfl,rfl,rfl,rfl,rfl,trivial⟩,by rw[aaL,← abO,aq,← abN,gv];rfl⟩ ?_
 intro k g hk
 have hk:k≤W.L.length:=hk
 refine an (fun ab=>?_) (fun ar=>?_)
 ·have ab:(k:Int)<W.L.length:=ab
  have ab:k<W.L.length:=by omega
  refine ag.mk ⟨rfl,by omega,by omega⟩ ?_
  rcases W.mach k ab with hm | ⟨t,r,hm,_⟩
  ·refine fu.mk 4 _ (AV.nilif) rfl (Ak ab hm) ?_
   refine .sched [] (upto [] 7 0) (by kernel_rfl) ?_
   refine aa 0 ?_
   refine ag.mk ⟨rfl,by omega,by omega⟩ ?_
   refine cX 2 rfl (sU _ (by rw[JO _ _ hk];omega)) ?_
   refine a8 (k+1) ?_ ab ⟨rfl,rfl,rfl,rfl,rfl,rfl,rfl,rfl,aX (by omega),trivial⟩ (aJ ?_)
   ·show W.L.length-(k+1)<W.L.length-k;omega
   ·rw[← Tg _ _ ab,hm];rfl
  ·refine fu.mk 4 _ (AV.iface t (.ptr r 0)) rfl (Ak ab hm) ?_
   refine .sched [] (upto [] 7 0) (by kernel_rfl) ?_
   refine aa 0 ?_
   refine ag.mk ⟨rfl,by omega,by omega⟩ ?_
   refine cX 2 rfl (sU _ (by rw[JO _ _ hk];omega)) ?_
   refine a8 (k+1) ?_ ab ⟨rfl,rfl,rfl,rfl,rfl,rfl,rfl,rfl,aX (by omega),trivial⟩ (aJ ?_)
   ·show W.L.length-(k+1)<W.L.length-k;omega
   ·rw[← Tg _ _ ab,hm];rfl
 ·have ar:¬(k:Int)<W.L.length:=ar
  obtain rfl:k=W.L.length:=by omega
  obtain⟨dn,oG⟩:∃dn,dn=sH W.L W.L.length:=⟨_,rfl⟩
  rw[← oG]
  have ee:dn.length=W.L.length:=by rw[oG];exact JO _ _ (aU _)
  have de:st.length=W.L.length:=by rw[aq,gb]
  have rb:∀i (h:i<W.L.length),W.L[i]=.nilif→dn[i]?=some true:=by
   intro i h hm
   rw[oG,Ti,fo,bJ h,hm];rfl
  obtain⟨s,ei⟩:∃s,s=z:=⟨_,rfl⟩
  subst ei
  have hI:uZ W aw a0 (s,st,dn,us):=by
   exact⟨by show us≤_;omega,de,ee,rb,hf,by rw[gv,oG,Ti,aq,mK];rfl⟩
  have ⟨gv,de,ee,rb,hf,Nz⟩:=hI
  have gv:us≤aw.length:=gv
  have de:st.length=W.L.length:=de
  have ee:dn.length=W.L.length:=ee
  have hF:=fun σ=>Hw (.ae ba 0 W.L.length 1) us bd dn σ (by omega)
  rw[ee]at hF
  refine aa 0 ?_
  refine an (fun c1=>?_) (fun c1=>?_)
  ·have c1:(↑us:Int)=(↑aw.length:Int):=c1
   have hE:=wG hI (.inl (by show us=_;omega))
   refine aa 0 ?_
   refine ak 3 ?_
   refine aa 3 ?_
   refine .cI 1 ba 0 W.L.length 1 _ (.int .i64) st rfl (wC de) ⟨de,rfl,by decide⟩ (mX .here (.refl _) (.refl _) rfl rfl rfl) ?_
   refine .cI 1 bd 0 W.L.length 1 _ .bool dn rfl (wH ee) ⟨ee,rfl,by decide⟩ (mX (.refl _) .here (.refl _) rfl rfl rfl) ?_
   exact .drop 0 2 (.done ⟨s,by rw[hE],by rw[hE],rfl⟩)
  ·have c1:¬((↑us:Int)=(↑aw.length:Int)):=c1
   refine aa 0 ?_
   refine az [2] (hF _) ?_
   cases cg:dn.all id with
   |true=>
    have hE:=wG hI (.inr cg)
    refine aa 1 ?_
    refine ak 3 ?_
    refine aa 3 ?_
    refine .cI 2 ba 0 W.L.length 1 _ (.int .i64) st rfl (wC de) ⟨de,rfl,by decide⟩ (mX .here (.refl _) (.refl _) rfl rfl rfl) ?_
    refine .cI 0 bd 0 W.L.length 1 _ .bool dn rfl (wH ee) ⟨ee,rfl,by decide⟩ (mX (.refl _) .here (.refl _) rfl rfl rfl) ?_
    exact .drop 0 2 (.done ⟨s,by rw[hE],by rw[hE],rfl⟩)
   |false=>
    refine aa 1 ?_
    refine ag.mk rfl ?_
    have fK:us<aw.length:=by omega
    have l0:AV.int .i64 (IntKind.i64.wrap ((us:Int)+1))=AV.int .i64 ((us+1:Nat):Int):=aX (by omega)
    obtain⟨pk,eM⟩:∃pk,pk=aw[us]:=⟨_,rfl⟩
    obtain⟨pw,pd,pu⟩:=pk
    have fR:0<W.L.length:=by
     rcases tT W.L.length with h0 | h0
     ·rw[jP.1 (ee.trans h0)]at cg;cases cg
     ·exact h0
    refine bG.mk (pw,pd,pu) (by omega) ((get_some fK).trans (congrArg some eM.symm)) ?_
    obtain⟨i,hi⟩:∃i,i=iR pw W.L.length:=⟨_,rfl⟩
    have dW:i<W.L.length:=by rw[hi];exact Ch fR
    have r8:=fun σ=>Hs pw pd W.L.length σ (by omega)
    rw[← hi]at r8
    intro bp
    refine ak 0 ?_
    refine aa 0 ?_
    refine az [] (r8 _) ?_
    refine aa 2 ?_
    refine ag.mk ⟨rfl,by omega,by omega⟩ ?_
    cases hd:dn[i] with
    |true=>
     refine aT 1 rfl (sV (by omega) hd) ?_
     refine aa 2 ?_
     refine ak 2 ?_
     refine .loop (S:=W.S×List Int×List Bool×Nat) (fun _=>0) (fun _=>[(0,W.mv),(1,.ae lb 0 W.L.length 1),(2,.af (.field (.int .i64) (.field (.int .i64) .nil)) aw),(3,.iC),(8,.ptr aD 0),(9,.ptr br 0)]) (fun x=>(br,[.ae ba 0 W.L.length 1,.ae bd 0 W.L.length 1,.int .i64 x.2.2.2])::(ba,kr x.2.1)::(bd,jz x.2.2.1)::(aD,[.aj,.aj,.int .i64 0])::(lb,W.L)::(W.B x.1++σ)) (uZ W aw a0) (fun x=>aw.length-x.2.2.2) (s,st,dn,us+1) ⟨rfl,(F6 hI lW cg fK eM hi (by omega) hd),⟨rfl,rfl,rfl,rfl,rfl,rfl,trivial⟩,.drop 0 1 (.pull [2,2,0] (aJ ?_))⟩ ?_
     ·show _=(br,[AV.ae ba 0 W.L.length 1,AV.ae bd 0 W.L.length 1,AV.int .i64 ((us+1:Nat):Int)])::_
      rw[← l0]
      rfl
     rintro⟨s,st,dn,us⟩ g hI
     have ⟨gv,de,ee,rb,hf,Nz⟩:=hI
     have gv:us≤aw.length:=gv
     have de:st.length=W.L.length:=de
     have ee:dn.length=W.L.length:=ee
     have hF:=fun σ=>Hw (.ae ba 0 W.L.length 1) us bd dn σ (by omega)
     rw[ee]at hF
     refine aa 0 ?_
     refine an (fun c1=>?_) (fun c1=>?_)
     ·have c1:(↑us:Int)=(↑aw.length:Int):=c1
      have hE:=wG hI (.inl (by show us=_;omega))
      refine aa 0 ?_
      refine ak 3 ?_
      refine aa 3 ?_
      refine .cI 1 ba 0 W.L.length 1 _ (.int .i64) st rfl (wC de) ⟨de,rfl,by decide⟩ (mX .here (.refl _) (.refl _) rfl rfl rfl) ?_
      refine .cI 1 bd 0 W.L.length 1 _ .bool dn rfl (wH ee) ⟨ee,rfl,by decide⟩ (mX (.refl _) .here (.refl _) rfl rfl rfl) ?_
      exact .drop 0 2 (.done ⟨s,by rw[hE],by rw[hE],rfl⟩)
     ·have c1:¬((↑us:Int)=(↑aw.length:Int)):=c1
      refine aa 0 ?_
      refine az [2] (hF _) ?_
      cases cg:dn.all id with
      |true=>
       have hE:=wG hI (.inr cg)
       refine aa 1 ?_
       refine ak 3 ?_
       refine aa 3 ?_
       refine .cI 2 ba 0 W.L.length 1 _ (.int .i64) st rfl (wC de) ⟨de,rfl,by decide⟩ (mX .here (.refl _) (.refl _) rfl rfl rfl) ?_
       refine .cI 0 bd 0 W.L.length 1 _ .bool dn rfl (wH ee) ⟨ee,rfl,by decide⟩ (mX (.refl _) .here (.refl _) rfl rfl rfl) ?_
       exact .drop 0 2 (.done ⟨s,by rw[hE],by rw[hE],rfl⟩)
      |false=>
       refine aa 1 ?_
       refine ag.mk rfl ?_
       have fK:us<aw.length:=by omega
       have l0:AV.int .i64 (IntKind.i64.wrap ((us:Int)+1))=AV.int .i64 ((us+1:Nat):Int):=aX (by omega)
       obtain⟨pk,eM⟩:∃pk,pk=aw[us]:=⟨_,rfl⟩
       obtain⟨pw,pd,pu⟩:=pk
       have fR:0<W.L.length:=by
        rcases tT W.L.length with h0 | h0
        ·rw[jP.1 (ee.trans h0)]at cg;cases cg
        ·exact h0
       refine bG.mk (pw,pd,pu) (by omega) ((get_some fK).trans (congrArg some eM.symm)) ?_
       obtain⟨i,hi⟩:∃i,i=iR pw W.L.length:=⟨_,rfl⟩
       have dW:i<W.L.length:=by rw[hi];exact Ch fR
       have r8:=fun σ=>Hs pw pd W.L.length σ (by omega)
       rw[← hi]at r8
       intro bp
       refine ak 0 ?_
       refine aa 0 ?_
       refine az [] (r8 _) ?_
       refine aa 2 ?_
       refine ag.mk ⟨rfl,by omega,by omega⟩ ?_
       cases hd:dn[i] with
       |true=>
        refine aT 1 rfl (sV (by omega) hd) ?_
        refine aa 2 ?_
        refine ak 2 ?_
        refine .mk (s,st,dn,us+1) rfl (by show aw.length-(us+1)<aw.length-us;omega) (F6 hI lW cg fK eM hi (by omega) hd) ⟨rfl,rfl,rfl,rfl,rfl,rfl,trivial⟩ (.drop 0 1 (.pull [2,2,0] (aJ ?_)))
        show _=(br,[AV.ae ba 0 W.L.length 1,AV.ae bd 0 W.L.length 1,AV.int .i64 ((us+1:Nat):Int)])::_
        rw[← l0]
        rfl
       |false=>
        refine aT 1 rfl (sV (by omega) hd) ?_
        rcases W.mach i dW with hm | ⟨t,r,hm,gS,hMe,gJ⟩
        ·have:=rb i dW hm
         rw[bJ (by show i<dn.length;omega)]at this
         exact absurd (hd.symm.trans (Option.some.inj this)) (by decide)
        refine .sched [] (.one 0 false (.one 2 false (.one 3 false (.one 4 false (.one 5 false (.one 6 false (.one 7 false (.one 8 false (.one 9 false (.alt 1 (.one 10 false (.one 11 false (.one 12 false .stop))) (.one 10 false (.one 1 false (.one 11 false (.one 12 false .stop)))))))))))))) (by kernel_rfl) ?_
        refine ag.mk ⟨rfl,by omega,by omega⟩ ?_
        refine fu.mk 5 _ (AV.iface t (.ptr r 0)) rfl (Ak dW hm) ?_
        refine aa 0 ?_
        refine And.intro ?_ ?_
        ·refine aa 2 ?_
         refine W.aStep [_,_,_,_,_,_] hMe gJ hf fun s' dE=>?_
         refine ag.mk ⟨rfl,by omega,by omega⟩ ?_
         refine cX 1 rfl (sU _ (by omega)) ?_
         refine aa 2 ?_
         refine ag.mk ⟨rfl,by omega,by omega⟩ ?_
         refine aT 3 rfl (wA (by omega)) ?_
         refine ag.mk ⟨rfl,by omega,by omega⟩ ?_
         refine cX 3 rfl (wz _ (by omega)) ?_
         refine aa 2 ?_
         refine ak 2 ?_
         refine .mk (s',(st.set i (wr (st.getD i 0+1))),(dn.set i (W.step (W.abs s) i pd).2),us+1) rfl (by show aw.length-(us+1)<aw.length-us;omega) (wm hI lW cg fK eM hi dW hd dE) ⟨rfl,rfl,rfl,rfl,rfl,rfl,trivial⟩ (.drop 0 1 (.pull [2,2,0] (aJ ?_)))
         show _=(br,[AV.ae ba 0 W.L.length 1,AV.ae bd 0 W.L.length 1,AV.int .i64 ((us+1:Nat):Int)])::_
         rw[← l0]
         rfl
        ·refine W.aStep [_,_,_,_,_,_] hMe gJ hf fun s' dE=>?_
         refine aa 2 ?_
         refine ag.mk ⟨rfl,by omega,by omega⟩ ?_
         refine cX 1 rfl (sU _ (by omega)) ?_
         refine aa 2 ?_
         refine ag.mk ⟨rfl,by omega,by omega⟩ ?_
         refine aT 3 rfl (wA (by omega)) ?_
         refine ag.mk ⟨rfl,by omega,by omega⟩ ?_
         refine cX 3 rfl (wz _ (by omega)) ?_
         refine aa 2 ?_
         refine ak 2 ?_
         refine .mk (s',(st.set i (wr (st.getD i 0+1))),(dn.set i (W.step (W.abs s) i pd).2),us+1) rfl (by show aw.length-(us+1)<aw.length-us;omega) (wm hI lW cg fK eM hi dW hd dE) ⟨rfl,rfl,rfl,rfl,rfl,rfl,trivial⟩ (.drop 0 1 (.pull [2,2,0] (aJ ?_)))
         show _=(br,[AV.ae ba 0 W.L.length 1,AV.ae bd 0 W.L.length 1,AV.int .i64 ((us+1:Nat):Int)])::_
         rw[← l0]
         rfl
    |false=>
     refine aT 1 rfl (sV (by omega) hd) ?_
     rcases W.mach i dW with hm | ⟨t,r,hm,gS,hMe,gJ⟩
     ·have:=rb i dW hm
      rw[bJ (by show i<dn.length;omega)]at this
      exact absurd (hd.symm.trans (Option.some.inj this)) (by decide)
     refine .sched [] (.one 0 false (.one 2 false (.one 3 false (.one 4 false (.one 5 false (.one 6 false (.one 7 false (.one 8 false (.one 9 false (.alt 1 (.one 10 false (.one 11 false (.one 12 false .stop))) (.one 10 false (.one 1 false (.one 11 false (.one 12 false .stop)))))))))))))) (by kernel_rfl) ?_
     refine ag.mk ⟨rfl,by omega,by omega⟩ ?_
     refine fu.mk 5 _ (AV.iface t (.ptr r 0)) rfl (Ak dW hm) ?_
     refine aa 0 ?_
     refine And.intro ?_ ?_
     ·refine aa 2 ?_
      refine W.aStep [_,_,_,_,_,_] hMe gJ hf fun s' dE=>?_
      refine ag.mk ⟨rfl,by omega,by omega⟩ ?_
      refine cX 1 rfl (sU _ (by omega)) ?_
      refine aa 2 ?_
      refine ag.mk ⟨rfl,by omega,by omega⟩ ?_
      refine aT 3 rfl (wA (by omega)) ?_
      refine ag.mk ⟨rfl,by omega,by omega⟩ ?_
      refine cX 3 rfl (wz _ (by omega)) ?_
      refine aa 2 ?_
      refine ak 2 ?_
      refine .loop (S:=W.S×List Int×List Bool×Nat) (fun _=>0) (fun _=>[(0,W.mv),(1,.ae lb 0 W.L.length 1),(2,.af (.field (.int .i64) (.field (.int .i64) .nil)) aw),(3,.iC),(8,.ptr aD 0),(9,.ptr br 0)]) (fun x=>(br,[.ae ba 0 W.L.length 1,.ae bd 0 W.L.length 1,.int .i64 x.2.2.2])::(ba,kr x.2.1)::(bd,jz x.2.2.1)::(aD,[.aj,.aj,.int .i64 0])::(lb,W.L)::(W.B x.1++σ)) (uZ W aw a0) (fun x=>aw.length-x.2.2.2) (s',(st.set i (wr (st.getD i 0+1))),(dn.set i (W.step (W.abs s) i pd).2),us+1) ⟨rfl,(wm hI lW cg fK eM hi dW hd dE),⟨rfl,rfl,rfl,rfl,rfl,rfl,trivial⟩,.drop 0 1 (.pull [2,2,0] (aJ ?_))⟩ ?_
      ·show _=(br,[AV.ae ba 0 W.L.length 1,AV.ae bd 0 W.L.length 1,AV.int .i64 ((us+1:Nat):Int)])::_
       rw[← l0]
       rfl
      rintro⟨s,st,dn,us⟩ g hI
      have ⟨gv,de,ee,rb,hf,Nz⟩:=hI
      have gv:us≤aw.length:=gv
      have de:st.length=W.L.length:=de
      have ee:dn.length=W.L.length:=ee
      have hF:=fun σ=>Hw (.ae ba 0 W.L.length 1) us bd dn σ (by omega)
      rw[ee]at hF
      refine aa 0 ?_
      refine an (fun c1=>?_) (fun c1=>?_)
      ·have c1:(↑us:Int)=(↑aw.length:Int):=c1
       have hE:=wG hI (.inl (by show us=_;omega))
       refine aa 0 ?_
       refine ak 3 ?_
       refine aa 3 ?_
       refine .cI 1 ba 0 W.L.length 1 _ (.int .i64) st rfl (wC de) ⟨de,rfl,by decide⟩ (mX .here (.refl _) (.refl _) rfl rfl rfl) ?_
       refine .cI 1 bd 0 W.L.length 1 _ .bool dn rfl (wH ee) ⟨ee,rfl,by decide⟩ (mX (.refl _) .here (.refl _) rfl rfl rfl) ?_
       exact .drop 0 2 (.done ⟨s,by rw[hE],by rw[hE],rfl⟩)
      ·have c1:¬((↑us:Int)=(↑aw.length:Int)):=c1
       refine aa 0 ?_
       refine az [2] (hF _) ?_
       cases cg:dn.all id with
       |true=>
        have hE:=wG hI (.inr cg)
        refine aa 1 ?_
        refine ak 3 ?_
        refine aa 3 ?_
        refine .cI 2 ba 0 W.L.length 1 _ (.int .i64) st rfl (wC de) ⟨de,rfl,by decide⟩ (mX .here (.refl _) (.refl _) rfl rfl rfl) ?_
        refine .cI 0 bd 0 W.L.length 1 _ .bool dn rfl (wH ee) ⟨ee,rfl,by decide⟩ (mX (.refl _) .here (.refl _) rfl rfl rfl) ?_
        exact .drop 0 2 (.done ⟨s,by rw[hE],by rw[hE],rfl⟩)
       |false=>
        refine aa 1 ?_
        refine ag.mk rfl ?_
        have fK:us<aw.length:=by omega
        have l0:AV.int .i64 (IntKind.i64.wrap ((us:Int)+1))=AV.int .i64 ((us+1:Nat):Int):=aX (by omega)
        obtain⟨pk,eM⟩:∃pk,pk=aw[us]:=⟨_,rfl⟩
        obtain⟨pw,pd,pu⟩:=pk
        have fR:0<W.L.length:=by
         rcases tT W.L.length with h0 | h0
         ·rw[jP.1 (ee.trans h0)]at cg;cases cg
         ·exact h0
        refine bG.mk (pw,pd,pu) (by omega) ((get_some fK).trans (congrArg some eM.symm)) ?_
        obtain⟨i,hi⟩:∃i,i=iR pw W.L.length:=⟨_,rfl⟩
        have dW:i<W.L.length:=by rw[hi];exact Ch fR
        have r8:=fun σ=>Hs pw pd W.L.length σ (by omega)
        rw[← hi]at r8
        intro bp
        refine ak 0 ?_
        refine aa 0 ?_
        refine az [] (r8 _) ?_
        refine aa 2 ?_
        refine ag.mk ⟨rfl,by omega,by omega⟩ ?_
        cases hd:dn[i] with
        |true=>
         refine aT 1 rfl (sV (by omega) hd) ?_
         refine aa 2 ?_
         refine ak 2 ?_
         refine .mk (s,st,dn,us+1) rfl (by show aw.length-(us+1)<aw.length-us;omega) (F6 hI lW cg fK eM hi (by omega) hd) ⟨rfl,rfl,rfl,rfl,rfl,rfl,trivial⟩ (.drop 0 1 (.pull [2,2,0] (aJ ?_)))
         show _=(br,[AV.ae ba 0 W.L.length 1,AV.ae bd 0 W.L.length 1,AV.int .i64 ((us+1:Nat):Int)])::_
         rw[← l0]
         rfl
        |false=>
         refine aT 1 rfl (sV (by omega) hd) ?_
         rcases W.mach i dW with hm | ⟨t,r,hm,gS,hMe,gJ⟩
         ·have:=rb i dW hm
          rw[bJ (by show i<dn.length;omega)]at this
          exact absurd (hd.symm.trans (Option.some.inj this)) (by decide)
         refine .sched [] (.one 0 false (.one 2 false (.one 3 false (.one 4 false (.one 5 false (.one 6 false (.one 7 false (.one 8 false (.one 9 false (.alt 1 (.one 10 false (.one 11 false (.one 12 false .stop))) (.one 10 false (.one 1 false (.one 11 false (.one 12 false .stop)))))))))))))) (by kernel_rfl) ?_
         refine ag.mk ⟨rfl,by omega,by omega⟩ ?_
         refine fu.mk 5 _ (AV.iface t (.ptr r 0)) rfl (Ak dW hm) ?_
         refine aa 0 ?_
         refine And.intro ?_ ?_
         ·refine aa 2 ?_
          refine W.aStep [_,_,_,_,_,_] hMe gJ hf fun s' dE=>?_
          refine ag.mk ⟨rfl,by omega,by omega⟩ ?_
          refine cX 1 rfl (sU _ (by omega)) ?_
          refine aa 2 ?_
          refine ag.mk ⟨rfl,by omega,by omega⟩ ?_
          refine aT 3 rfl (wA (by omega)) ?_
          refine ag.mk ⟨rfl,by omega,by omega⟩ ?_
          refine cX 3 rfl (wz _ (by omega)) ?_
          refine aa 2 ?_
          refine ak 2 ?_
          refine .mk (s',(st.set i (wr (st.getD i 0+1))),(dn.set i (W.step (W.abs s) i pd).2),us+1) rfl (by show aw.length-(us+1)<aw.length-us;omega) (wm hI lW cg fK eM hi dW hd dE) ⟨rfl,rfl,rfl,rfl,rfl,rfl,trivial⟩ (.drop 0 1 (.pull [2,2,0] (aJ ?_)))
          show _=(br,[AV.ae ba 0 W.L.length 1,AV.ae bd 0 W.L.length 1,AV.int .i64 ((us+1:Nat):Int)])::_
          rw[← l0]
          rfl
         ·refine W.aStep [_,_,_,_,_,_] hMe gJ hf fun s' dE=>?_
          refine aa 2 ?_
          refine ag.mk ⟨rfl,by omega,by omega⟩ ?_
          refine cX 1 rfl (sU _ (by omega)) ?_
          refine aa 2 ?_
          refine ag.mk ⟨rfl,by omega,by omega⟩ ?_
          refine aT 3 rfl (wA (by omega)) ?_
          refine ag.mk ⟨rfl,by omega,by omega⟩ ?_
          refine cX 3 rfl (wz _ (by omega)) ?_
          refine aa 2 ?_
          refine ak 2 ?_
          refine .mk (s',(st.set i (wr (st.getD i 0+1))),(dn.set i (W.step (W.abs s) i pd).2),us+1) rfl (by show aw.length-(us+1)<aw.length-us;omega) (wm hI lW cg fK eM hi dW hd dE) ⟨rfl,rfl,rfl,rfl,rfl,rfl,trivial⟩ (.drop 0 1 (.pull [2,2,0] (aJ ?_)))
          show _=(br,[AV.ae ba 0 W.L.length 1,AV.ae bd 0 W.L.length 1,AV.int .i64 ((us+1:Nat):Int)])::_
          rw[← l0]
          rfl
     ·refine W.aStep [_,_,_,_,_,_] hMe gJ hf fun s' dE=>?_
      refine aa 2 ?_
      refine ag.mk ⟨rfl,by omega,by omega⟩ ?_
      refine cX 1 rfl (sU _ (by omega)) ?_
      refine aa 2 ?_
      refine ag.mk ⟨rfl,by omega,by omega⟩ ?_
      refine aT 3 rfl (wA (by omega)) ?_
      refine ag.mk ⟨rfl,by omega,by omega⟩ ?_
      refine cX 3 rfl (wz _ (by omega)) ?_
      refine aa 2 ?_
      refine ak 2 ?_
      refine .loop (S:=W.S×List Int×List Bool×Nat) (fun _=>0) (fun _=>[(0,W.mv),(1,.ae lb 0 W.L.length 1),(2,.af (.field (.int .i64) (.field (.int .i64) .nil)) aw),(3,.iC),(8,.ptr aD 0),(9,.ptr br 0)]) (fun x=>(br,[.ae ba 0 W.L.length 1,.ae bd 0 W.L.length 1,.int .i64 x.2.2.2])::(ba,kr x.2.1)::(bd,jz x.2.2.1)::(aD,[.aj,.aj,.int .i64 0])::(lb,W.L)::(W.B x.1++σ)) (uZ W aw a0) (fun x=>aw.length-x.2.2.2) (s',(st.set i (wr (st.getD i 0+1))),(dn.set i (W.step (W.abs s) i pd).2),us+1) ⟨rfl,(wm hI lW cg fK eM hi dW hd dE),⟨rfl,rfl,rfl,rfl,rfl,rfl,trivial⟩,.drop 0 1 (.pull [2,2,0] (aJ ?_))⟩ ?_
      ·show _=(br,[AV.ae ba 0 W.L.length 1,AV.ae bd 0 W.L.length 1,AV.int .i64 ((us+1:Nat):Int)])::_
       rw[← l0]
       rfl
      rintro⟨s,st,dn,us⟩ g hI
      have ⟨gv,de,ee,rb,hf,Nz⟩:=hI
      have gv:us≤aw.length:=gv
      have de:st.length=W.L.length:=de
      have ee:dn.length=W.L.length:=ee
      have hF:=fun σ=>Hw (.ae ba 0 W.L.length 1) us bd dn σ (by omega)
      rw[ee]at hF
      refine aa 0 ?_
      refine an (fun c1=>?_) (fun c1=>?_)
      ·have c1:(↑us:Int)=(↑aw.length:Int):=c1
       have hE:=wG hI (.inl (by show us=_;omega))
       refine aa 0 ?_
       refine ak 3 ?_
       refine aa 3 ?_
       refine .cI 1 ba 0 W.L.length 1 _ (.int .i64) st rfl (wC de) ⟨de,rfl,by decide⟩ (mX .here (.refl _) (.refl _) rfl rfl rfl) ?_
       refine .cI 1 bd 0 W.L.length 1 _ .bool dn rfl (wH ee) ⟨ee,rfl,by decide⟩ (mX (.refl _) .here (.refl _) rfl rfl rfl) ?_
       exact .drop 0 2 (.done ⟨s,by rw[hE],by rw[hE],rfl⟩)
      ·have c1:¬((↑us:Int)=(↑aw.length:Int)):=c1
       refine aa 0 ?_
       refine az [2] (hF _) ?_
       cases cg:dn.all id with
       |true=>
        have hE:=wG hI (.inr cg)
        refine aa 1 ?_
        refine ak 3 ?_
        refine aa 3 ?_
        refine .cI 2 ba 0 W.L.length 1 _ (.int .i64) st rfl (wC de) ⟨de,rfl,by decide⟩ (mX .here (.refl _) (.refl _) rfl rfl rfl) ?_
        refine .cI 0 bd 0 W.L.length 1 _ .bool dn rfl (wH ee) ⟨ee,rfl,by decide⟩ (mX (.refl _) .here (.refl _) rfl rfl rfl) ?_
        exact .drop 0 2 (.done ⟨s,by rw[hE],by rw[hE],rfl⟩)
       |false=>
        refine aa 1 ?_
        refine ag.mk rfl ?_
        have fK:us<aw.length:=by omega
        have l0:AV.int .i64 (IntKind.i64.wrap ((us:Int)+1))=AV.int .i64 ((us+1:Nat):Int):=aX (by omega)
        obtain⟨pk,eM⟩:∃pk,pk=aw[us]:=⟨_,rfl⟩
        obtain⟨pw,pd,pu⟩:=pk
        have fR:0<W.L.length:=by
         rcases tT W.L.length with h0 | h0
         ·rw[jP.1 (ee.trans h0)]at cg;cases cg
         ·exact h0
        refine bG.mk (pw,pd,pu) (by omega) ((get_some fK).trans (congrArg some eM.symm)) ?_
        obtain⟨i,hi⟩:∃i,i=iR pw W.L.length:=⟨_,rfl⟩
        have dW:i<W.L.length:=by rw[hi];exact Ch fR
        have r8:=fun σ=>Hs pw pd W.L.length σ (by omega)
        rw[← hi]at r8
        intro bp
        refine ak 0 ?_
        refine aa 0 ?_
        refine az [] (r8 _) ?_
        refine aa 2 ?_
        refine ag.mk ⟨rfl,by omega,by omega⟩ ?_
        cases hd:dn[i] with
        |true=>
         refine aT 1 rfl (sV (by omega) hd) ?_
         refine aa 2 ?_
         refine ak 2 ?_
         refine .mk (s,st,dn,us+1) rfl (by show aw.length-(us+1)<aw.length-us;omega) (F6 hI lW cg fK eM hi (by omega) hd) ⟨rfl,rfl,rfl,rfl,rfl,rfl,trivial⟩ (.drop 0 1 (.pull [2,2,0] (aJ ?_)))
         show _=(br,[AV.ae ba 0 W.L.length 1,AV.ae bd 0 W.L.length 1,AV.int .i64 ((us+1:Nat):Int)])::_
         rw[← l0]
         rfl
        |false=>
         refine aT 1 rfl (sV (by omega) hd) ?_
         rcases W.mach i dW with hm | ⟨t,r,hm,gS,hMe,gJ⟩
         ·have:=rb i dW hm
          rw[bJ (by show i<dn.length;omega)]at this
          exact absurd (hd.symm.trans (Option.some.inj this)) (by decide)
         refine .sched [] (.one 0 false (.one 2 false (.one 3 false (.one 4 false (.one 5 false (.one 6 false (.one 7 false (.one 8 false (.one 9 false (.alt 1 (.one 10 false (.one 11 false (.one 12 false .stop))) (.one 10 false (.one 1 false (.one 11 false (.one 12 false .stop)))))))))))))) (by kernel_rfl) ?_
         refine ag.mk ⟨rfl,by omega,by omega⟩ ?_
         refine fu.mk 5 _ (AV.iface t (.ptr r 0)) rfl (Ak dW hm) ?_
         refine aa 0 ?_
         refine And.intro ?_ ?_
         ·refine aa 2 ?_
          refine W.aStep [_,_,_,_,_,_] hMe gJ hf fun s' dE=>?_
          refine ag.mk ⟨rfl,by omega,by omega⟩ ?_
          refine cX 1 rfl (sU _ (by omega)) ?_
          refine aa 2 ?_
          refine ag.mk ⟨rfl,by omega,by omega⟩ ?_
          refine aT 3 rfl (wA (by omega)) ?_
          refine ag.mk ⟨rfl,by omega,by omega⟩ ?_
          refine cX 3 rfl (wz _ (by omega)) ?_
          refine aa 2 ?_
          refine ak 2 ?_
          refine .mk (s',(st.set i (wr (st.getD i 0+1))),(dn.set i (W.step (W.abs s) i pd).2),us+1) rfl (by show aw.length-(us+1)<aw.length-us;omega) (wm hI lW cg fK eM hi dW hd dE) ⟨rfl,rfl,rfl,rfl,rfl,rfl,trivial⟩ (.drop 0 1 (.pull [2,2,0] (aJ ?_)))
          show _=(br,[AV.ae ba 0 W.L.length 1,AV.ae bd 0 W.L.length 1,AV.int .i64 ((us+1:Nat):Int)])::_
          rw[← l0]
          rfl
         ·refine W.aStep [_,_,_,_,_,_] hMe gJ hf fun s' dE=>?_
          refine aa 2 ?_
          refine ag.mk ⟨rfl,by omega,by omega⟩ ?_
          refine cX 1 rfl (sU _ (by omega)) ?_
          refine aa 2 ?_
          refine ag.mk ⟨rfl,by omega,by omega⟩ ?_
          refine aT 3 rfl (wA (by omega)) ?_
          refine ag.mk ⟨rfl,by omega,by omega⟩ ?_
          refine cX 3 rfl (wz _ (by omega)) ?_
          refine aa 2 ?_
          refine ak 2 ?_
          refine .mk (s',(st.set i (wr (st.getD i 0+1))),(dn.set i (W.step (W.abs s) i pd).2),us+1) rfl (by show aw.length-(us+1)<aw.length-us;omega) (wm hI lW cg fK eM hi dW hd dE) ⟨rfl,rfl,rfl,rfl,rfl,rfl,trivial⟩ (.drop 0 1 (.pull [2,2,0] (aJ ?_)))
          show _=(br,[AV.ae ba 0 W.L.length 1,AV.ae bd 0 W.L.length 1,AV.int .i64 ((us+1:Nat):Int)])::_
          rw[← l0]
          rfl
end Go.Proofs.YtnikdflhefijbaaGreat
