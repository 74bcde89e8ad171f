import Derived.Test.YtnikdflhefijbaaGreatBr6
import Derived.Test.YtnikdflhefijbaaGreatBr12
import Derived.Test.YtnikdflhefijbaaGreatBr5
import Derived.Test.YtnikdflhefijbaaGreatBr14
import Derived.Test.YtnikdflhefijbaaGreatBr19
import Derived.Test.YtnikdflhefijbaaGreatBr1
namespace Go.Proofs.YtnikdflhefijbaaGreat
open Go.RowKit
set_option maxRecDepth 100000
set_option maxHeartbeats 4000000
def fD(p:Int)(n:Nat):Nat:=if n<1 then 0 else (p % (n:Int)).toNat
theorem xn{p:Int}{n:Nat}(h:0<n):fD p n<n:=by
 unfold fD
 rw[aA (by omega)]
 have h1:=GI p (show (n:Int)≠0 by omega)
 have h2:=GP p (show (0:Int)<n by omega)
 omega
theorem P1{p:Int}{n:Nat}(h0:0<n)(hn:n≤1000000)(h:p.tmod n<0):IntKind.i64.wrap (p.tmod n+n)=((fD p n:Nat):Int):=by
 have h1:=GI p (show (n:Int)≠0 by omega)
 have h2:=GP p (show (0:Int)<n by omega)
 have e:= @Int.tmod_eq_emod p n
 unfold fD
 rw[aA (by omega),IntKind.wrap_i64]
 split at e <;> omega
theorem PZ{p:Int}{n:Nat}(h0:0<n)(h:¬p.tmod n<0):p.tmod n=((fD p n:Nat):Int):=by
 have h1:=GI p (show (n:Int)≠0 by omega)
 have h2:=GP p (show (0:Int)<n by omega)
 have e:= @Int.tmod_eq_emod p n
 unfold fD
 rw[aA (by omega)]
 split at e <;> omega
theorem OP{p:Int}{n:Nat}(h:(n:Int)<1):(0:Int)=((fD p n:Nat):Int):=by
 unfold fD
 rw[az (by omega)];rfl
theorem Fx(p d:Int)(n:Nat)(σ:Hp)(hn:n≤1000000):ACalls Tryz.prog 70 [.agg [.int .i64 p,.int .i64 d],.int .i64 n] σ (aD (.int .i64 (fD p n)) σ):=by
 refine au Tryz.func70 ?_
 intro aB
 refine aj (fun c2=>?_) (fun c2=>?_)
 ·have c2:(↑n:Int)<1:=c2
  exact .drop 0 1 (.done ⟨aR (OP (by assumption)),rfl⟩)
 ·have c2:¬((↑n:Int)<1):=c2
  refine aa 0 ?_
  refine dX ?_
  refine aj (fun c3=>?_) (fun c3=>?_)
  ·have c3:p.tmod (↑n:Int)<0:=c3
   exact .drop 0 1 (.done ⟨aR (P1 (by omega) hn (by assumption)),rfl⟩)
  ·have c3:¬(p.tmod (↑n:Int)<0):=c3
   exact .drop 0 1 (.done ⟨aR (PZ (by omega) (by assumption)),rfl⟩)
theorem ad4(p d:Int)(n:Nat)(σ:Hp)(hn:n≤1000000):ACalls Tryz.prog 59 [.agg [.int .i64 p,.int .i64 d],.int .i64 n] σ (aD (.int .i64 (fD p n)) σ):=by
 refine au Tryz.func59 ?_
 intro aB
 refine aj (fun c2=>?_) (fun c2=>?_)
 ·have c2:(↑n:Int)<1:=c2
  exact .drop 0 1 (.done ⟨aR (OP (by assumption)),rfl⟩)
 ·have c2:¬((↑n:Int)<1):=c2
  refine aa 0 ?_
  refine dX ?_
  refine aj (fun c3=>?_) (fun c3=>?_)
  ·have c3:p.tmod (↑n:Int)<0:=c3
   exact .drop 0 1 (.done ⟨aR (P1 (by omega) hn (by assumption)),rfl⟩)
  ·have c3:¬(p.tmod (↑n:Int)<0):=c3
   exact .drop 0 1 (.done ⟨aR (PZ (by omega) (by assumption)),rfl⟩)
def gh(l:List Bool):List AV:=l.map AV.bool
theorem qq{dn:List Bool}{k:Nat}(h:k<dn.length){b:Bool}(hb:dn[k]=b):(gh dn)[0+((k:Int)).toNat*1]?=some (.bool b):=by
 simp[gh,h,hb]
theorem E7{dn:List Bool}{k:Nat}(h:k<dn.length)(hd:dn[k]=false):dn.all id=false:=by
 cases ha:dn.all id with
 |false=>rfl
 |true=>
  have:=fN.1 ha _ (cq h)
  rw[hd]at this
  cases this
theorem adl(b:Nat)(dn:List Bool)(σ:Hp)(hn:dn.length≤1000000):ACalls Tryz.prog 22 [.ah b 0 dn.length 1] ((b,gh dn)::σ) (aD (.bool (dn.all id)) ((b,gh dn)::σ)):=by
 refine au Tryz.func22 ?_
 refine bh (S:=Nat) (fun s=>[(5,.ah b 0 dn.length 1),(6,.int .i64 dn.length),(7,.int .i64 s)]) (fun _=>(b,gh dn)::σ) (fun s=>s≤dn.length∧(dn.take s).all id=true) (fun s=>dn.length-s) 0 ⟨⟨aY _,rfl⟩,⟨rfl,rfl,rfl,trivial⟩,rfl⟩ ?_
 rintro k g ⟨hk,bQ⟩
 refine aj (fun h=>?_) (fun h=>?_)
 ·have h:(k:Int)<dn.length:=h
  have gW:k<dn.length:=by omega
  refine aQ ?_
  cases hd:dn[k] with
  |true=>
   refine aW 0 rfl (qq gW hd) ?_
   refine aM (k+1) ?_ ⟨gW,?_⟩ ⟨rfl,rfl,aL (by omega),trivial⟩ (aN rfl)
   ·show dn.length-(k+1)<dn.length-k;omega
   ·rw[eT gW,tb,bQ,hd];rfl
  |false=>
   refine aW 0 rfl (qq gW hd) ?_
   exact .done ⟨congrArg AV.bool (E7 gW hd).symm,rfl⟩
 ·have h:¬(k:Int)<dn.length:=h
  exact .done ⟨congrArg AV.bool (by rw[← dN (show dn.length≤k by omega)];exact bQ.symm),rfl⟩
theorem FE(sv:AV)(u:Int)(b:Nat)(dn:List Bool)(σ:Hp)(hn:dn.length≤1000000):ACalls Tryz.prog 42 [.agg [sv,.ah b 0 dn.length 1,.int .i64 u]] ((b,gh dn)::σ) (aD (.bool (dn.all id)) ((b,gh dn)::σ)):=by
 refine au Tryz.func42 ?_
 intro aB
 refine aa 0 ?_
 refine bh (S:=Nat) (fun s=>[(6,.ah b 0 dn.length 1),(7,.int .i64 dn.length),(8,.int .i64 s)]) (fun _=>(aB,[sv,.ah b 0 dn.length 1,.int .i64 u])::(b,gh dn)::σ) (fun s=>s≤dn.length∧(dn.take s).all id=true) (fun s=>dn.length-s) 0 ⟨⟨aY _,rfl⟩,⟨rfl,rfl,rfl,trivial⟩,rfl⟩ ?_
 rintro k g ⟨hk,bQ⟩
 refine aj (fun h=>?_) (fun h=>?_)
 ·have h:(k:Int)<dn.length:=h
  have gW:k<dn.length:=by omega
  refine aQ ?_
  cases hd:dn[k] with
  |true=>
   refine aW 1 rfl (qq gW hd) ?_
   refine aM (k+1) ?_ ⟨gW,?_⟩ ⟨rfl,rfl,aL (by omega),trivial⟩ (aN rfl)
   ·show dn.length-(k+1)<dn.length-k;omega
   ·rw[eT gW,tb,bQ,hd];rfl
  |false=>
   refine aW 1 rfl (qq gW hd) ?_
   exact .drop 0 1 (.done ⟨congrArg AV.bool (E7 gW hd).symm,rfl⟩)
 ·have h:¬(k:Int)<dn.length:=h
  exact .drop 0 1 (.done ⟨congrArg AV.bool (by rw[← dN (show dn.length≤k by omega)];exact bQ.symm),rfl⟩)
def ko(l:List Int):List AV:=l.map (AV.int .i64)
def isNil:AV→Bool
 |.nilif=>true
 |_=>false
theorem Qc(n:Nat):cN [.bool false] n=gh (List.replicate n false):=by
 unfold gh
 induction n with
 |zero=>rfl
 |succ n ih=>simp[cN,ih,List.replicate_succ]
theorem ZA(n:Nat):cN [.int .i64 0] n=ko (List.replicate n 0):=by
 unfold ko
 induction n with
 |zero=>rfl
 |succ n ih=>simp[cN,ih,List.replicate_succ]
def sb(L:List AV)(k:Nat):List Bool:=(L.take k).map isNil++List.replicate (L.length-k) false
theorem Yx(L:List AV):sb L 0=List.replicate L.length false:=by simp[sb]
theorem HF(L:List AV)(k:Nat)(h:k≤L.length):(sb L k).length=L.length:=by simp[sb];omega
theorem QC(L:List AV):sb L L.length=L.map isNil:=by simp[sb]
theorem QB(L:List AV)(k:Nat)(h:k<L.length):(sb L k).set k (isNil L[k])=sb L (k+1):=by
 unfold sb
 rw[show L.length-k=(L.length-(k+1))+1 by omega,L8,eT h,cC]
 have hl:((L.take k).map isNil).length=k:=by simp;omega
 rw[G7 _ _ (by omega),hl,nt]
 simp
theorem zj{L:List AV}{k:Nat}(h:k<L.length){x:AV}(hx:L[k]=x):L[0+((k:Int)).toNat*1]?=some x:=by
 rw[show 0+((k:Int)).toNat*1=k by omega,bN h,hx]
theorem ra{dn:List Bool}{k:Nat}(b:Bool)(h:k<dn.length):kC ⟨.bool,1,1,[.bool false]⟩ (gh dn) (0+((k:Int)).toNat*1) (.bool b)=some (gh (dn.set k b)):=by
 have e:0+((k:Int)).toNat*1=k:=by omega
 have h2:Nat.ble (k+1) (gh dn).length=true:=Nat.ble_eq_true_of_le (by simp[gh];omega)
 rw[e]
 show (match Nat.beq 1 1,Nat.ble (k+1) (gh dn).length with | true,true=>some (gi (gh dn) k [.bool b]) | _,_=>none)=_
 rw[h2]
 show some ((gh dn).set k (.bool b))=_
 rw[show (gh dn).set k (.bool b)=gh (dn.set k b) by simp[gh,List.map_set]]
theorem vB{l:List Int}{k:Nat}(h:k<l.length):(ko l)[0+((k:Int)).toNat*1]?=some (.int .i64 (l.getD k 0)):=by
 simp[ko,h,List.getD]
theorem vA{l:List Int}{k:Nat}(x:Int)(h:k<l.length):kC ⟨.int .i64,1,8,[.int .i64 0]⟩ (ko l) (0+((k:Int)).toNat*1) (.int .i64 x)=some (ko (l.set k x)):=by
 have e:0+((k:Int)).toNat*1=k:=by omega
 have h2:Nat.ble (k+1) (ko l).length=true:=Nat.ble_eq_true_of_le (by simp[ko];omega)
 rw[e]
 show (match Nat.beq 1 1,Nat.ble (k+1) (ko l).length with | true,true=>some (gi (ko l) k [.int .i64 x]) | _,_=>none)=_
 rw[h2]
 show some ((ko l).set k (.int .i64 x))=_
 rw[show (ko l).set k (.int .i64 x)=ko (l.set k x) by simp[ko,List.map_set]]
structure iQ(A:Type) where
 a:A
 st:List Int
 dn:List Bool
 us:Nat
def j5{A:Type}(step:A→Nat→Int→A×Bool)(tell:A→Nat→A)(n:Nat)(x:iQ A)(p:Int×Int×Unit):iQ A:=
 if x.dn.getD (fD p.1 n) true then ⟨tell x.a (x.us+1),x.st,x.dn,x.us+1⟩
 else ⟨tell (step x.a (fD p.1 n) p.2.1).1 (x.us+1),x.st.set (fD p.1 n) (wr (x.st.getD (fD p.1 n) 0+1)),x.dn.set (fD p.1 n) (step x.a (fD p.1 n) p.2.1).2,x.us+1⟩
def jl{A:Type}(step:A→Nat→Int→A×Bool)(tell:A→Nat→A)(n:Nat):List (Int×Int×Unit)→iQ A→iQ A
 | [],x=>x
 |p::ps,x=>if x.dn.all id then x else jl step tell n ps (j5 step tell n x p)
structure AWorld where
 A:Type
 S:Type
 abs:S→A
 B:S→Hp
 L:List AV
 mt:TypeId
 mx:AV
 step:A→Nat→Int→A×Bool
 tell:A→Nat→A
 free:Nat→A→Prop
 keeps:∀n a i d,n<100000→free n a→i<L.length→free (n+1) (step a i d).1
 told:∀n a k,free n a→free n (tell a k)
 more:∀n a,free n a→free (n+1) a
 mach : ∀ i (h : i < L.length), L[i] = .nilif ∨ ∃ t r, L[i] = .iface t (.ptr r 0) ∧ ∃ g, Meth Tryz.prog t "Step" g ∧
  ∀(n:Nat) (s:S) (d:Int) (σ:Hp),n<100000→free n (abs s)→ACalls Tryz.prog g [.ptr r 0,.iface mt mx,.int .i64 d] (B s++σ) (fun x σ'=>∃s',abs s'=(step (abs s) i d).1∧x=.bool (step (abs s) i d).2∧σ'=B s'++σ)
abbrev AWorld.mv(W:AWorld):AV:=.iface W.mt W.mx
def AWorld.init(W:AWorld)(a:W.A):iQ W.A:=⟨a,List.replicate W.L.length 0,W.L.map isNil,0⟩
theorem AWorld.aStep (W : AWorld) (fr : Hp) {n : Nat} {s : W.S} {σ : Hp} {K : AV → Hp → Prop} {i r : Nat} {t : TypeId} {g : FuncId} {d : Int} (hMe : Meth Tryz.prog t "Step" g)
  (gP:∀(n:Nat) (s:W.S) (d:Int) (σ:Hp),n<100000→W.free n (W.abs s)→ACalls Tryz.prog g [.ptr r 0,.iface W.mt W.mx,.int .i64 d] (W.B s++σ) (fun x σ'=>∃s',W.abs s'=(W.step (W.abs s) i d).1∧x=.bool (W.step (W.abs s) i d).2∧σ'=W.B s'++σ))
  (hn : n < 100000) (hf : W.free n (W.abs s)) (k : ∀ s', W.abs s' = (W.step (W.abs s) i d).1 → K (.bool (W.step (W.abs s) i d).2) (fr ++ (W.B s' ++ σ))) : InvAt Tryz.prog t "Step" (.ptr r 0) fun g u => CallAt Tryz.prog g K [u, W.mv, .int .i64 d] (fr ++ (W.B s ++ σ)) := by
 refine .mk g hMe (.perm _ (si fr (W.B s) σ) (gP n s d (fr++σ) hn hf) ?_)
 rintro r σ' ⟨s',h3,rfl,rfl⟩
 exact⟨_,(si fr (W.B s') σ).symm,k s' h3⟩
def AWorld.run(W:AWorld)(ay:List (Int×Int×Unit))(a:W.A):iQ W.A:=jl W.step W.tell W.L.length ay (W.init a)
def Iz(W:AWorld)(ay:List (Int×Int×Unit))(a:W.A)(fr σ:Hp):AV→Hp→Prop:=fun x σ'=>∃s',W.abs s'=(W.run ay a).a∧x=.agg [.af (.int .i64) (W.run ay a).st,.af .bool (W.run ay a).dn,.int .i64 (W.run ay a).us]∧σ'=fr++(W.B s'++σ)
theorem mT{b off len es:Nat}{e:Sh}{l:List e.T}{x1 x2 x3 y1 y2 y3:AV}(h1:eI b off len es e l x1 y1)(h2:eI b off len es e l x2 y2)(h3:eI b off len es e l x3 y3)(l1:y1.leaf=true)(l2:y2.leaf=true)(l3:y3.leaf=true):eI b off len es e l (.agg [x1,x2,x3]) (.agg [y1,y2,y3]):=by
 refine .agg _ _ rfl (fun i y hy=>?_) (fun i x y hx hy=>?_)
 ·match i,hy with
  | 0,hy=>cases hy;exact l1
  | 1,hy=>cases hy;exact l2
  | 2,hy=>cases hy;exact l3
  |i+3,hy=>cases hy
 ·match i,hx,hy with
  | 0,hx,hy=>cases hx;cases hy;exact h1
  | 1,hx,hy=>cases hx;cases hy;exact h2
  | 2,hx,hy=>cases hx;cases hy;exact h3
  |i+3,hx,hy=>cases hx
theorem OV:∀(ws:List Int),ko ws=ws.flatMap (Sh.cells (.int .i64))
 | []=>rfl
 |z::ws=>congrArg (AV.int .i64 z :: ·) (OV ws)
theorem PI:∀(ws:List Bool),gh ws=ws.flatMap (Sh.cells .bool)
 | []=>rfl
 |z::ws=>congrArg (AV.bool z :: ·) (PI ws)
theorem vC{l:List Int}{n:Nat}(h:l.length=n):((ko l).drop 0).take (n*1)=l.flatMap (Sh.cells (.int .i64)):=by
 rw[fG,← OV]
 exact List.take_of_length_le (by simp[ko,h])
theorem sm{l:List Bool}{n:Nat}(h:l.length=n):((gh l).drop 0).take (n*1)=l.flatMap (Sh.cells .bool):=by
 rw[fG,← PI]
 exact List.take_of_length_le (by simp[gh,h])
def uh(W:AWorld)(ay:List (Int×Int×Unit))(a0:W.A)(x:W.S×List Int×List Bool×Nat):Prop:=
 x.2.2.2≤ay.length∧x.2.1.length=W.L.length∧x.2.2.1.length=W.L.length∧(∀i (h:i<W.L.length),W.L[i]=.nilif→x.2.2.1[i]?=some true)∧W.free x.2.2.2 (W.abs x.1)∧jl W.step W.tell W.L.length (ay.drop x.2.2.2) ⟨W.abs x.1,x.2.1,x.2.2.1,x.2.2.2⟩=W.run ay a0
theorem Z7{A:Type}{step:A→Nat→Int→A×Bool}{tell:A→Nat→A}{n:Nat}(l:List (Int×Int×Unit)){x:iQ A}(h:x.dn.all id=true):jl step tell n l x=x:=by
 cases l with
 |nil=>rfl
 |cons p ps=>rw[jl,az h]
theorem Px{A:Type}{step:A→Nat→Int→A×Bool}{tell:A→Nat→A}{n:Nat}(p:Int×Int×Unit)(ps:List (Int×Int×Unit)){x:iQ A}(h:x.dn.all id=false):jl step tell n (p::ps) x=jl step tell n ps (j5 step tell n x p):=by
 rw[jl,aA (by rw[h];decide)]
theorem vD{W:AWorld}{ay:List (Int×Int×Unit)}{a0:W.A}{s:W.S}{st:List Int}{dn:List Bool}{us:Nat}(h:uh W ay a0 (s,st,dn,us))(he:us=ay.length∨dn.all id=true):W.run ay a0=⟨W.abs s,st,dn,us⟩:=by
 obtain⟨_,_,_,_,_,hg⟩:=h
 rw[← hg]
 rcases he with he | he
 ·show jl _ _ _ (ay.drop us) _=_
  rw[he,GL];rfl
 ·exact Z7 _ he
theorem Qu{dn:List Bool}{i:Nat}{b d:Bool}(h:i<dn.length)(hd:dn[i]=b):dn.getD i d=b:=by
 rw[bO,bN h,hd];rfl
theorem Er{W:AWorld}{ay:List (Int×Int×Unit)}{a0:W.A}{s:W.S}{st:List Int}{dn:List Bool}{us i:Nat}{pw pd:Int}{pu:Unit}(h:uh W ay a0 (s,st,dn,us))(lW:∀a k,W.tell a k=a)(bQ:dn.all id=false)(eu:us<ay.length)(eS:(pw,pd,pu)=ay[us])(hi:i=fD pw W.L.length)(ew:i<dn.length)(hd:dn[i]=true):uh W ay a0 (s,st,dn,us+1):=by
 obtain⟨h1,h2,h3,h4,h5,hg⟩:=h
 refine⟨eu,h2,h3,h4,W.more _ _ h5,?_⟩
 rw[← hg]
 show jl _ _ _ (ay.drop (us+1)) _=jl _ _ _ (ay.drop us) _
 rw[yu eu,← eS,Px _ _ bQ]
 unfold j5
 dsimp only
 rw[← hi,az (Qu ew hd),lW]
theorem vv{W:AWorld}{ay:List (Int×Int×Unit)}{a0:W.A}{s s':W.S}{st:List Int}{dn:List Bool}{us i:Nat}{pw pd:Int}{pu:Unit}(h:uh W ay a0 (s,st,dn,us))(lW:∀a k,W.tell a k=a)(bQ:dn.all id=false)(eu:us<ay.length)(hub:us<100000)(eS:(pw,pd,pu)=ay[us])(hi:i=fD pw W.L.length)(ew:i<W.L.length){S3:i<dn.length}(hd:dn[i]=false)(dS:W.abs s'=(W.step (W.abs s) i pd).1):
  uh W ay a0 (s',st.set i (wr (st.getD i 0+1)),dn.set i (W.step (W.abs s) i pd).2,us+1):=by
 obtain⟨h1,h2,h3,h4,h5,hg⟩:=h
 refine⟨eu,(dV ..).trans h2,(dV ..).trans h3,?_,?_,?_⟩
 ·intro k hk hm
  have:=h4 k hk hm
  show (dn.set i _)[k]?=some true
  rw[gX]
  split
  ·rename_i he
   subst he
   rw[bN S3,hd]at this
   cases this
  ·exact this
 ·show W.free (us+1) (W.abs s')
  rw[dS];exact W.keeps _ _ _ _ hub h5 ew
 ·rw[← hg]
  show jl _ _ _ (ay.drop (us+1)) _=jl _ _ _ (ay.drop us) _
  rw[yu eu,← eS,Px _ _ bQ]
  unfold j5
  dsimp only
  rw[← hi,aA (by rw[Qu S3 hd];decide),lW,← dS]
theorem adi(W:AWorld)(lb:Nat)(ay:List (Int×Int×Unit))(s0:W.S)(σ:Hp)(hn:W.L.length≤100000)(hs:ay.length≤100000)(hf:W.free 0 (W.abs s0))(lW:∀a k,W.tell a k=a):
  ACalls Tryz.prog 140 [W.mv,.ah lb 0 W.L.length 1,.af (.field (.int .i64) (.field (.int .i64) .nil)) ay,.iI] ((lb,W.L)::(W.B s0++σ)) (Iz W ay (W.abs s0) [(lb,W.L)] σ):=by
 obtain⟨a0,gp⟩:∃a0,a0=W.abs s0:=⟨_,rfl⟩
 rw[← gp]
 obtain⟨z,lE⟩:∃z,z=s0:=⟨_,rfl⟩
 subst lE
 refine au Tryz.func140 ?_
 intro aB
 refine .meet (S:=Nat×Nat×Nat) (fun s=>[(0,W.mv),(1,.ah lb 0 W.L.length 1),(2,.af (.field (.int .i64) (.field (.int .i64) .nil)) ay),(3,.iI),(8,.ptr aB 0),(9,.ptr s.1 0)])
  (fun s=>(s.1,[.ah s.2.1 0 W.L.length 1,.ah s.2.2 0 W.L.length 1,.int .i64 0])::(s.2.1,cN [.int .i64 0] W.L.length)::(s.2.2,cN [.bool false] W.L.length)::(aB,[.ak,.ak,.int .i64 0])::(lb,W.L)::(W.B z++σ)) (by kernel_rfl) ?_ ?_
 ·repeat' first
   |exact cX.mk (_,_,_) ⟨rfl,rfl,rfl,rfl,rfl,rfl,trivial⟩ (aN rfl)
   |exact cX.mk (_,_,_) ⟨rfl,rfl,rfl,rfl,rfl,rfl,trivial⟩ (.pull [2,2,1] (aN rfl))
   |exact cX.mk (_,_,_) ⟨rfl,rfl,rfl,rfl,rfl,rfl,trivial⟩ (.pull [2,1,2] (aN rfl))
   |exact cX.mk (_,_,_) ⟨rfl,rfl,rfl,rfl,rfl,rfl,trivial⟩ (.pull [2,2,0] (aN rfl))
   |exact cX.mk (_,_,_) ⟨rfl,rfl,rfl,rfl,rfl,rfl,trivial⟩ (.pull [2,1,1] (aN rfl))
   |exact cX.mk (_,_,_) ⟨rfl,rfl,rfl,rfl,rfl,rfl,trivial⟩ (.pull [2,1,0] (aN rfl))
   |refine And.intro ?_ ?_
   |refine bg ?_
   |refine ag 0 ?_
   |refine ag 1 ?_
   |refine ag 2 ?_
   |intro b
 rintro⟨br,ba,bd⟩ g
 refine ar [] (dF _ _ _) ?_
 obtain⟨us,gb⟩:∃us:Nat,us=0:=⟨_,rfl⟩
 obtain⟨st,ao⟩:∃st,st=(List.replicate W.L.length 0:List Int):=⟨_,rfl⟩
 refine bh (S:=Nat) (fun s=>[(0,W.mv),(1,.ah lb 0 W.L.length 1),(2,.af (.field (.int .i64) (.field (.int .i64) .nil)) ay),(3,.iI),(8,.ptr aB 0),(9,.ptr br 0),(23,.ah lb 0 W.L.length 1),(24,.int .i64 W.L.length),(25,.int .i64 s)])
  (fun s=>(br,[.ah ba 0 W.L.length 1,.ah bd 0 W.L.length 1,.int .i64 us])::(ba,ko st)::(bd,gh (sb W.L s))::(aB,[.ak,.ak,.int .i64 0])::(lb,W.L)::(W.B z++σ)) (fun s=>s≤W.L.length) (fun s=>W.L.length-s) 0 ⟨aY _,⟨rfl,rfl,rfl,rfl,rfl,rfl,rfl,rfl,rfl,trivial⟩,by rw[Yx,← Qc,ao,← ZA,gb];rfl⟩ ?_
 intro k g hk
 have hk:k≤W.L.length:=hk
 refine aj (fun ab=>?_) (fun aq=>?_)
 ·have ab:(k:Int)<W.L.length:=ab
  have ab:k<W.L.length:=by omega
  refine aQ ?_
  rcases W.mach k ab with hm | ⟨t,r,hm,_⟩
  ·refine eH.mk 4 _ (AV.nilif) rfl (zj ab hm) ?_
   refine .sched [] (upto [] 7 0) (by kernel_rfl) ?_
   refine aa 0 ?_
   refine aQ ?_
   refine cu 2 rfl (ra _ (by rw[HF _ _ hk];omega)) ?_
   refine aM (k+1) ?_ ab ⟨rfl,rfl,rfl,rfl,rfl,rfl,rfl,rfl,aL (by omega),trivial⟩ (aN ?_)
   ·show W.L.length-(k+1)<W.L.length-k;omega
   ·rw[← QB _ _ ab,hm];rfl
  ·refine eH.mk 4 _ (AV.iface t (.ptr r 0)) rfl (zj ab hm) ?_
   refine .sched [] (upto [] 7 0) (by kernel_rfl) ?_
   refine aa 0 ?_
   refine aQ ?_
   refine cu 2 rfl (ra _ (by rw[HF _ _ hk];omega)) ?_
   refine aM (k+1) ?_ ab ⟨rfl,rfl,rfl,rfl,rfl,rfl,rfl,rfl,aL (by omega),trivial⟩ (aN ?_)
   ·show W.L.length-(k+1)<W.L.length-k;omega
   ·rw[← QB _ _ ab,hm];rfl
 ·have aq:¬(k:Int)<W.L.length:=aq
  obtain rfl:k=W.L.length:=by omega
  obtain⟨dn,mH⟩:∃dn,dn=sb W.L W.L.length:=⟨_,rfl⟩
  rw[← mH]
  have dI:dn.length=W.L.length:=by rw[mH];exact HF _ _ (bJ _)
  have dx:st.length=W.L.length:=by rw[ao,gY]
  have oU:∀i (h:i<W.L.length),W.L[i]=.nilif→dn[i]?=some true:=by
   intro i h hm
   rw[mH,QC,fm,bN h,hm];rfl
  obtain⟨s,eE⟩:∃s,s=z:=⟨_,rfl⟩
  subst eE
  have hI:uh W ay a0 (s,st,dn,us):=by
   exact⟨by show us≤_;omega,dx,dI,oU,gb▸hf,by rw[gb,mH,QC,ao,gp];rfl⟩
  have ⟨gb,dx,dI,oU,hf,Lj⟩:=hI
  have gb:us≤ay.length:=gb
  have dx:st.length=W.L.length:=dx
  have dI:dn.length=W.L.length:=dI
  have hF:=fun σ=>FE (.ah ba 0 W.L.length 1) us bd dn σ (by omega)
  rw[dI]at hF
  refine aa 0 ?_
  refine aj (fun c1=>?_) (fun c1=>?_)
  ·have c1:(↑us:Int)=(↑ay.length:Int):=c1
   have hE:=vD hI (.inl (by show us=_;omega))
   refine aa 0 ?_
   refine ag 3 ?_
   refine aa 3 ?_
   refine .cH 1 ba 0 W.L.length 1 _ (.int .i64) st rfl (vC dx) ⟨dx,rfl,by decide⟩ (mT .here (.refl _) (.refl _) rfl rfl rfl) ?_
   refine .cH 1 bd 0 W.L.length 1 _ .bool dn rfl (sm dI) ⟨dI,rfl,by decide⟩ (mT (.refl _) .here (.refl _) rfl rfl rfl) ?_
   exact .drop 0 2 (.done ⟨s,by rw[hE],by rw[hE],rfl⟩)
  ·have c1:¬((↑us:Int)=(↑ay.length:Int)):=c1
   refine aa 0 ?_
   refine ar [2] (hF _) ?_
   cases bQ:dn.all id with
   |true=>
    have hE:=vD hI (.inr bQ)
    refine aa 1 ?_
    refine ag 3 ?_
    refine aa 3 ?_
    refine .cH 2 ba 0 W.L.length 1 _ (.int .i64) st rfl (vC dx) ⟨dx,rfl,by decide⟩ (mT .here (.refl _) (.refl _) rfl rfl rfl) ?_
    refine .cH 0 bd 0 W.L.length 1 _ .bool dn rfl (sm dI) ⟨dI,rfl,by decide⟩ (mT (.refl _) .here (.refl _) rfl rfl rfl) ?_
    exact .drop 0 2 (.done ⟨s,by rw[hE],by rw[hE],rfl⟩)
   |false=>
    refine aa 1 ?_
    refine aw.mk rfl ?_
    have eu:us<ay.length:=by omega
    have l4:AV.int .i64 (IntKind.i64.wrap ((us:Int)+1))=AV.int .i64 ((us+1:Nat):Int):=aL (by omega)
    obtain⟨pk,eS⟩:∃pk,pk=ay[us]:=⟨_,rfl⟩
    obtain⟨pw,pd,pu⟩:=pk
    have fF:0<W.L.length:=by
     rcases r8 W.L.length with h0 | h0
     ·rw[jm.1 (dI.trans h0)]at bQ;cases bQ
     ·exact h0
    refine aX.mk (pw,pd,pu) (by omega) ((get_some eu).trans (congrArg some eS.symm)) ?_
    obtain⟨i,hi⟩:∃i,i=fD pw W.L.length:=⟨_,rfl⟩
    have ew:i<W.L.length:=by rw[hi];exact xn fF
    have rE:=fun σ=>Fx pw pd W.L.length σ (by omega)
    rw[← hi]at rE
    intro bp
    refine ag 0 ?_
    refine aa 0 ?_
    refine ar [] (rE _) ?_
    refine aa 2 ?_
    refine aQ ?_
    cases hd:dn[i] with
    |true=>
     refine aW 1 rfl (qq (by omega) hd) ?_
     refine aa 2 ?_
     refine ag 2 ?_
     refine .loop (S:=W.S×List Int×List Bool×Nat) (fun _=>0) (fun _=>[(0,W.mv),(1,.ah lb 0 W.L.length 1),(2,.af (.field (.int .i64) (.field (.int .i64) .nil)) ay),(3,.iI),(8,.ptr aB 0),(9,.ptr br 0)]) (fun x=>(br,[.ah ba 0 W.L.length 1,.ah bd 0 W.L.length 1,.int .i64 x.2.2.2])::(ba,ko x.2.1)::(bd,gh x.2.2.1)::(aB,[.ak,.ak,.int .i64 0])::(lb,W.L)::(W.B x.1++σ)) (uh W ay a0) (fun x=>ay.length-x.2.2.2) (s,st,dn,us+1) ⟨rfl,(Er hI lW bQ eu eS hi (by omega) hd),⟨rfl,rfl,rfl,rfl,rfl,rfl,trivial⟩,.drop 0 1 (.pull [2,2,0] (aN ?_))⟩ ?_
     ·show _=(br,[AV.ah ba 0 W.L.length 1,AV.ah bd 0 W.L.length 1,AV.int .i64 ((us+1:Nat):Int)])::_
      rw[← l4]
      rfl
     rintro⟨s,st,dn,us⟩ g hI
     have ⟨gb,dx,dI,oU,hf,Lj⟩:=hI
     have gb:us≤ay.length:=gb
     have dx:st.length=W.L.length:=dx
     have dI:dn.length=W.L.length:=dI
     have hF:=fun σ=>FE (.ah ba 0 W.L.length 1) us bd dn σ (by omega)
     rw[dI]at hF
     refine aa 0 ?_
     refine aj (fun c1=>?_) (fun c1=>?_)
     ·have c1:(↑us:Int)=(↑ay.length:Int):=c1
      have hE:=vD hI (.inl (by show us=_;omega))
      refine aa 0 ?_
      refine ag 3 ?_
      refine aa 3 ?_
      refine .cH 1 ba 0 W.L.length 1 _ (.int .i64) st rfl (vC dx) ⟨dx,rfl,by decide⟩ (mT .here (.refl _) (.refl _) rfl rfl rfl) ?_
      refine .cH 1 bd 0 W.L.length 1 _ .bool dn rfl (sm dI) ⟨dI,rfl,by decide⟩ (mT (.refl _) .here (.refl _) rfl rfl rfl) ?_
      exact .drop 0 2 (.done ⟨s,by rw[hE],by rw[hE],rfl⟩)
     ·have c1:¬((↑us:Int)=(↑ay.length:Int)):=c1
      refine aa 0 ?_
      refine ar [2] (hF _) ?_
      cases bQ:dn.all id with
      |true=>
       have hE:=vD hI (.inr bQ)
       refine aa 1 ?_
       refine ag 3 ?_
       refine aa 3 ?_
       refine .cH 2 ba 0 W.L.length 1 _ (.int .i64) st rfl (vC dx) ⟨dx,rfl,by decide⟩ (mT .here (.refl _) (.refl _) rfl rfl rfl) ?_
       refine .cH 0 bd 0 W.L.length 1 _ .bool dn rfl (sm dI) ⟨dI,rfl,by decide⟩ (mT (.refl _) .here (.refl _) rfl rfl rfl) ?_
       exact .drop 0 2 (.done ⟨s,by rw[hE],by rw[hE],rfl⟩)
      |false=>
       refine aa 1 ?_
       refine aw.mk rfl ?_
       have eu:us<ay.length:=by omega
       have l4:AV.int .i64 (IntKind.i64.wrap ((us:Int)+1))=AV.int .i64 ((us+1:Nat):Int):=aL (by omega)
       obtain⟨pk,eS⟩:∃pk,pk=ay[us]:=⟨_,rfl⟩
       obtain⟨pw,pd,pu⟩:=pk
       have fF:0<W.L.length:=by
        rcases r8 W.L.length with h0 | h0
        ·rw[jm.1 (dI.trans h0)]at bQ;cases bQ
        ·exact h0
       refine aX.mk (pw,pd,pu) (by omega) ((get_some eu).trans (congrArg some eS.symm)) ?_
       obtain⟨i,hi⟩:∃i,i=fD pw W.L.length:=⟨_,rfl⟩
       have ew:i<W.L.length:=by rw[hi];exact xn fF
       have rE:=fun σ=>Fx pw pd W.L.length σ (by omega)
       rw[← hi]at rE
       intro bp
       refine ag 0 ?_
       refine aa 0 ?_
       refine ar [] (rE _) ?_
       refine aa 2 ?_
       refine aQ ?_
       cases hd:dn[i] with
       |true=>
        refine aW 1 rfl (qq (by omega) hd) ?_
        refine aa 2 ?_
        refine ag 2 ?_
        refine .mk (s,st,dn,us+1) rfl (by show ay.length-(us+1)<ay.length-us;omega) (Er hI lW bQ eu eS hi (by omega) hd) ⟨rfl,rfl,rfl,rfl,rfl,rfl,trivial⟩ (.drop 0 1 (.pull [2,2,0] (aN ?_)))
        show _=(br,[AV.ah ba 0 W.L.length 1,AV.ah bd 0 W.L.length 1,AV.int .i64 ((us+1:Nat):Int)])::_
        rw[← l4]
        rfl
       |false=>
        refine aW 1 rfl (qq (by omega) hd) ?_
        rcases W.mach i ew with hm | ⟨t,r,hm,gS,hMe,gP⟩
        ·have:=oU i ew hm
         rw[bN (by show i<dn.length;omega)]at this
         exact absurd (hd.symm.trans (Option.some.inj this)) (by decide)
        refine .sched [] (.one 0 false (.one 2 false (.one 3 false (.one 4 false (.one 5 false (.one 6 false (.one 7 false (.one 8 false (.one 9 false (.alt 1 (.one 10 false (.one 11 false (.one 12 false .stop))) (.one 10 false (.one 1 false (.one 11 false (.one 12 false .stop)))))))))))))) (by kernel_rfl) ?_
        refine aQ ?_
        refine eH.mk 5 _ (AV.iface t (.ptr r 0)) rfl (zj ew hm) ?_
        refine aa 0 ?_
        refine And.intro ?_ ?_
        ·refine aa 2 ?_
         refine W.aStep [_,_,_,_,_,_] hMe gP (n:=us) (by omega) hf fun s' dS=>?_
         refine aQ ?_
         refine cu 1 rfl (ra _ (by omega)) ?_
         refine aa 2 ?_
         refine aQ ?_
         refine aW 3 rfl (vB (by omega)) ?_
         refine aQ ?_
         refine cu 3 rfl (vA _ (by omega)) ?_
         refine aa 2 ?_
         refine ag 2 ?_
         refine .mk (s',(st.set i (wr (st.getD i 0+1))),(dn.set i (W.step (W.abs s) i pd).2),us+1) rfl (by show ay.length-(us+1)<ay.length-us;omega) (vv hI lW bQ eu (by omega) eS hi ew hd dS) ⟨rfl,rfl,rfl,rfl,rfl,rfl,trivial⟩ (.drop 0 1 (.pull [2,2,0] (aN ?_)))
         show _=(br,[AV.ah ba 0 W.L.length 1,AV.ah bd 0 W.L.length 1,AV.int .i64 ((us+1:Nat):Int)])::_
         rw[← l4]
         rfl
        ·refine W.aStep [_,_,_,_,_,_] hMe gP (n:=us) (by omega) hf fun s' dS=>?_
         refine aa 2 ?_
         refine aQ ?_
         refine cu 1 rfl (ra _ (by omega)) ?_
         refine aa 2 ?_
         refine aQ ?_
         refine aW 3 rfl (vB (by omega)) ?_
         refine aQ ?_
         refine cu 3 rfl (vA _ (by omega)) ?_
         refine aa 2 ?_
         refine ag 2 ?_
         refine .mk (s',(st.set i (wr (st.getD i 0+1))),(dn.set i (W.step (W.abs s) i pd).2),us+1) rfl (by show ay.length-(us+1)<ay.length-us;omega) (vv hI lW bQ eu (by omega) eS hi ew hd dS) ⟨rfl,rfl,rfl,rfl,rfl,rfl,trivial⟩ (.drop 0 1 (.pull [2,2,0] (aN ?_)))
         show _=(br,[AV.ah ba 0 W.L.length 1,AV.ah bd 0 W.L.length 1,AV.int .i64 ((us+1:Nat):Int)])::_
         rw[← l4]
         rfl
    |false=>
     refine aW 1 rfl (qq (by omega) hd) ?_
     rcases W.mach i ew with hm | ⟨t,r,hm,gS,hMe,gP⟩
     ·have:=oU i ew hm
      rw[bN (by show i<dn.length;omega)]at this
      exact absurd (hd.symm.trans (Option.some.inj this)) (by decide)
     refine .sched [] (.one 0 false (.one 2 false (.one 3 false (.one 4 false (.one 5 false (.one 6 false (.one 7 false (.one 8 false (.one 9 false (.alt 1 (.one 10 false (.one 11 false (.one 12 false .stop))) (.one 10 false (.one 1 false (.one 11 false (.one 12 false .stop)))))))))))))) (by kernel_rfl) ?_
     refine aQ ?_
     refine eH.mk 5 _ (AV.iface t (.ptr r 0)) rfl (zj ew hm) ?_
     refine aa 0 ?_
     refine And.intro ?_ ?_
     ·refine aa 2 ?_
      refine W.aStep [_,_,_,_,_,_] hMe gP (n:=us) (by omega) hf fun s' dS=>?_
      refine aQ ?_
      refine cu 1 rfl (ra _ (by omega)) ?_
      refine aa 2 ?_
      refine aQ ?_
      refine aW 3 rfl (vB (by omega)) ?_
      refine aQ ?_
      refine cu 3 rfl (vA _ (by omega)) ?_
      refine aa 2 ?_
      refine ag 2 ?_
      refine .loop (S:=W.S×List Int×List Bool×Nat) (fun _=>0) (fun _=>[(0,W.mv),(1,.ah lb 0 W.L.length 1),(2,.af (.field (.int .i64) (.field (.int .i64) .nil)) ay),(3,.iI),(8,.ptr aB 0),(9,.ptr br 0)]) (fun x=>(br,[.ah ba 0 W.L.length 1,.ah bd 0 W.L.length 1,.int .i64 x.2.2.2])::(ba,ko x.2.1)::(bd,gh x.2.2.1)::(aB,[.ak,.ak,.int .i64 0])::(lb,W.L)::(W.B x.1++σ)) (uh W ay a0) (fun x=>ay.length-x.2.2.2) (s',(st.set i (wr (st.getD i 0+1))),(dn.set i (W.step (W.abs s) i pd).2),us+1) ⟨rfl,(vv hI lW bQ eu (by omega) eS hi ew hd dS),⟨rfl,rfl,rfl,rfl,rfl,rfl,trivial⟩,.drop 0 1 (.pull [2,2,0] (aN ?_))⟩ ?_
      ·show _=(br,[AV.ah ba 0 W.L.length 1,AV.ah bd 0 W.L.length 1,AV.int .i64 ((us+1:Nat):Int)])::_
       rw[← l4]
       rfl
      rintro⟨s,st,dn,us⟩ g hI
      have ⟨gb,dx,dI,oU,hf,Lj⟩:=hI
      have gb:us≤ay.length:=gb
      have dx:st.length=W.L.length:=dx
      have dI:dn.length=W.L.length:=dI
      have hF:=fun σ=>FE (.ah ba 0 W.L.length 1) us bd dn σ (by omega)
      rw[dI]at hF
      refine aa 0 ?_
      refine aj (fun c1=>?_) (fun c1=>?_)
      ·have c1:(↑us:Int)=(↑ay.length:Int):=c1
       have hE:=vD hI (.inl (by show us=_;omega))
       refine aa 0 ?_
       refine ag 3 ?_
       refine aa 3 ?_
       refine .cH 1 ba 0 W.L.length 1 _ (.int .i64) st rfl (vC dx) ⟨dx,rfl,by decide⟩ (mT .here (.refl _) (.refl _) rfl rfl rfl) ?_
       refine .cH 1 bd 0 W.L.length 1 _ .bool dn rfl (sm dI) ⟨dI,rfl,by decide⟩ (mT (.refl _) .here (.refl _) rfl rfl rfl) ?_
       exact .drop 0 2 (.done ⟨s,by rw[hE],by rw[hE],rfl⟩)
      ·have c1:¬((↑us:Int)=(↑ay.length:Int)):=c1
       refine aa 0 ?_
       refine ar [2] (hF _) ?_
       cases bQ:dn.all id with
       |true=>
        have hE:=vD hI (.inr bQ)
        refine aa 1 ?_
        refine ag 3 ?_
        refine aa 3 ?_
        refine .cH 2 ba 0 W.L.length 1 _ (.int .i64) st rfl (vC dx) ⟨dx,rfl,by decide⟩ (mT .here (.refl _) (.refl _) rfl rfl rfl) ?_
        refine .cH 0 bd 0 W.L.length 1 _ .bool dn rfl (sm dI) ⟨dI,rfl,by decide⟩ (mT (.refl _) .here (.refl _) rfl rfl rfl) ?_
        exact .drop 0 2 (.done ⟨s,by rw[hE],by rw[hE],rfl⟩)
       |false=>
        refine aa 1 ?_
        refine aw.mk rfl ?_
        have eu:us<ay.length:=by omega
        have l4:AV.int .i64 (IntKind.i64.wrap ((us:Int)+1))=AV.int .i64 ((us+1:Nat):Int):=aL (by omega)
        obtain⟨pk,eS⟩:∃pk,pk=ay[us]:=⟨_,rfl⟩
        obtain⟨pw,pd,pu⟩:=pk
        have fF:0<W.L.length:=by
         rcases r8 W.L.length with h0 | h0
         ·rw[jm.1 (dI.trans h0)]at bQ;cases bQ
         ·exact h0
        refine aX.mk (pw,pd,pu) (by omega) ((get_some eu).trans (congrArg some eS.symm)) ?_
        obtain⟨i,hi⟩:∃i,i=fD pw W.L.length:=⟨_,rfl⟩
        have ew:i<W.L.length:=by rw[hi];exact xn fF
        have rE:=fun σ=>Fx pw pd W.L.length σ (by omega)
        rw[← hi]at rE
        intro bp
        refine ag 0 ?_
        refine aa 0 ?_
        refine ar [] (rE _) ?_
        refine aa 2 ?_
        refine aQ ?_
        cases hd:dn[i] with
        |true=>
         refine aW 1 rfl (qq (by omega) hd) ?_
         refine aa 2 ?_
         refine ag 2 ?_
         refine .mk (s,st,dn,us+1) rfl (by show ay.length-(us+1)<ay.length-us;omega) (Er hI lW bQ eu eS hi (by omega) hd) ⟨rfl,rfl,rfl,rfl,rfl,rfl,trivial⟩ (.drop 0 1 (.pull [2,2,0] (aN ?_)))
         show _=(br,[AV.ah ba 0 W.L.length 1,AV.ah bd 0 W.L.length 1,AV.int .i64 ((us+1:Nat):Int)])::_
         rw[← l4]
         rfl
        |false=>
         refine aW 1 rfl (qq (by omega) hd) ?_
         rcases W.mach i ew with hm | ⟨t,r,hm,gS,hMe,gP⟩
         ·have:=oU i ew hm
          rw[bN (by show i<dn.length;omega)]at this
          exact absurd (hd.symm.trans (Option.some.inj this)) (by decide)
         refine .sched [] (.one 0 false (.one 2 false (.one 3 false (.one 4 false (.one 5 false (.one 6 false (.one 7 false (.one 8 false (.one 9 false (.alt 1 (.one 10 false (.one 11 false (.one 12 false .stop))) (.one 10 false (.one 1 false (.one 11 false (.one 12 false .stop)))))))))))))) (by kernel_rfl) ?_
         refine aQ ?_
         refine eH.mk 5 _ (AV.iface t (.ptr r 0)) rfl (zj ew hm) ?_
         refine aa 0 ?_
         refine And.intro ?_ ?_
         ·refine aa 2 ?_
          refine W.aStep [_,_,_,_,_,_] hMe gP (n:=us) (by omega) hf fun s' dS=>?_
          refine aQ ?_
          refine cu 1 rfl (ra _ (by omega)) ?_
          refine aa 2 ?_
          refine aQ ?_
          refine aW 3 rfl (vB (by omega)) ?_
          refine aQ ?_
          refine cu 3 rfl (vA _ (by omega)) ?_
          refine aa 2 ?_
          refine ag 2 ?_
          refine .mk (s',(st.set i (wr (st.getD i 0+1))),(dn.set i (W.step (W.abs s) i pd).2),us+1) rfl (by show ay.length-(us+1)<ay.length-us;omega) (vv hI lW bQ eu (by omega) eS hi ew hd dS) ⟨rfl,rfl,rfl,rfl,rfl,rfl,trivial⟩ (.drop 0 1 (.pull [2,2,0] (aN ?_)))
          show _=(br,[AV.ah ba 0 W.L.length 1,AV.ah bd 0 W.L.length 1,AV.int .i64 ((us+1:Nat):Int)])::_
          rw[← l4]
          rfl
         ·refine W.aStep [_,_,_,_,_,_] hMe gP (n:=us) (by omega) hf fun s' dS=>?_
          refine aa 2 ?_
          refine aQ ?_
          refine cu 1 rfl (ra _ (by omega)) ?_
          refine aa 2 ?_
          refine aQ ?_
          refine aW 3 rfl (vB (by omega)) ?_
          refine aQ ?_
          refine cu 3 rfl (vA _ (by omega)) ?_
          refine aa 2 ?_
          refine ag 2 ?_
          refine .mk (s',(st.set i (wr (st.getD i 0+1))),(dn.set i (W.step (W.abs s) i pd).2),us+1) rfl (by show ay.length-(us+1)<ay.length-us;omega) (vv hI lW bQ eu (by omega) eS hi ew hd dS) ⟨rfl,rfl,rfl,rfl,rfl,rfl,trivial⟩ (.drop 0 1 (.pull [2,2,0] (aN ?_)))
          show _=(br,[AV.ah ba 0 W.L.length 1,AV.ah bd 0 W.L.length 1,AV.int .i64 ((us+1:Nat):Int)])::_
          rw[← l4]
          rfl
     ·refine W.aStep [_,_,_,_,_,_] hMe gP (n:=us) (by omega) hf fun s' dS=>?_
      refine aa 2 ?_
      refine aQ ?_
      refine cu 1 rfl (ra _ (by omega)) ?_
      refine aa 2 ?_
      refine aQ ?_
      refine aW 3 rfl (vB (by omega)) ?_
      refine aQ ?_
      refine cu 3 rfl (vA _ (by omega)) ?_
      refine aa 2 ?_
      refine ag 2 ?_
      refine .loop (S:=W.S×List Int×List Bool×Nat) (fun _=>0) (fun _=>[(0,W.mv),(1,.ah lb 0 W.L.length 1),(2,.af (.field (.int .i64) (.field (.int .i64) .nil)) ay),(3,.iI),(8,.ptr aB 0),(9,.ptr br 0)]) (fun x=>(br,[.ah ba 0 W.L.length 1,.ah bd 0 W.L.length 1,.int .i64 x.2.2.2])::(ba,ko x.2.1)::(bd,gh x.2.2.1)::(aB,[.ak,.ak,.int .i64 0])::(lb,W.L)::(W.B x.1++σ)) (uh W ay a0) (fun x=>ay.length-x.2.2.2) (s',(st.set i (wr (st.getD i 0+1))),(dn.set i (W.step (W.abs s) i pd).2),us+1) ⟨rfl,(vv hI lW bQ eu (by omega) eS hi ew hd dS),⟨rfl,rfl,rfl,rfl,rfl,rfl,trivial⟩,.drop 0 1 (.pull [2,2,0] (aN ?_))⟩ ?_
      ·show _=(br,[AV.ah ba 0 W.L.length 1,AV.ah bd 0 W.L.length 1,AV.int .i64 ((us+1:Nat):Int)])::_
       rw[← l4]
       rfl
      rintro⟨s,st,dn,us⟩ g hI
      have ⟨gb,dx,dI,oU,hf,Lj⟩:=hI
      have gb:us≤ay.length:=gb
      have dx:st.length=W.L.length:=dx
      have dI:dn.length=W.L.length:=dI
      have hF:=fun σ=>FE (.ah ba 0 W.L.length 1) us bd dn σ (by omega)
      rw[dI]at hF
      refine aa 0 ?_
      refine aj (fun c1=>?_) (fun c1=>?_)
      ·have c1:(↑us:Int)=(↑ay.length:Int):=c1
       have hE:=vD hI (.inl (by show us=_;omega))
       refine aa 0 ?_
       refine ag 3 ?_
       refine aa 3 ?_
       refine .cH 1 ba 0 W.L.length 1 _ (.int .i64) st rfl (vC dx) ⟨dx,rfl,by decide⟩ (mT .here (.refl _) (.refl _) rfl rfl rfl) ?_
       refine .cH 1 bd 0 W.L.length 1 _ .bool dn rfl (sm dI) ⟨dI,rfl,by decide⟩ (mT (.refl _) .here (.refl _) rfl rfl rfl) ?_
       exact .drop 0 2 (.done ⟨s,by rw[hE],by rw[hE],rfl⟩)
      ·have c1:¬((↑us:Int)=(↑ay.length:Int)):=c1
       refine aa 0 ?_
       refine ar [2] (hF _) ?_
       cases bQ:dn.all id with
       |true=>
        have hE:=vD hI (.inr bQ)
        refine aa 1 ?_
        refine ag 3 ?_
        refine aa 3 ?_
        refine .cH 2 ba 0 W.L.length 1 _ (.int .i64) st rfl (vC dx) ⟨dx,rfl,by decide⟩ (mT .here (.refl _) (.refl _) rfl rfl rfl) ?_
        refine .cH 0 bd 0 W.L.length 1 _ .bool dn rfl (sm dI) ⟨dI,rfl,by decide⟩ (mT (.refl _) .here (.refl _) rfl rfl rfl) ?_
        exact .drop 0 2 (.done ⟨s,by rw[hE],by rw[hE],rfl⟩)
       |false=>
        refine aa 1 ?_
        refine aw.mk rfl ?_
        have eu:us<ay.length:=by omega
        have l4:AV.int .i64 (IntKind.i64.wrap ((us:Int)+1))=AV.int .i64 ((us+1:Nat):Int):=aL (by omega)
        obtain⟨pk,eS⟩:∃pk,pk=ay[us]:=⟨_,rfl⟩
        obtain⟨pw,pd,pu⟩:=pk
        have fF:0<W.L.length:=by
         rcases r8 W.L.length with h0 | h0
         ·rw[jm.1 (dI.trans h0)]at bQ;cases bQ
         ·exact h0
        refine aX.mk (pw,pd,pu) (by omega) ((get_some eu).trans (congrArg some eS.symm)) ?_
        obtain⟨i,hi⟩:∃i,i=fD pw W.L.length:=⟨_,rfl⟩
        have ew:i<W.L.length:=by rw[hi];exact xn fF
        have rE:=fun σ=>Fx pw pd W.L.length σ (by omega)
        rw[← hi]at rE
        intro bp
        refine ag 0 ?_
        refine aa 0 ?_
        refine ar [] (rE _) ?_
        refine aa 2 ?_
        refine aQ ?_
        cases hd:dn[i] with
        |true=>
         refine aW 1 rfl (qq (by omega) hd) ?_
         refine aa 2 ?_
         refine ag 2 ?_
         refine .mk (s,st,dn,us+1) rfl (by show ay.length-(us+1)<ay.length-us;omega) (Er hI lW bQ eu eS hi (by omega) hd) ⟨rfl,rfl,rfl,rfl,rfl,rfl,trivial⟩ (.drop 0 1 (.pull [2,2,0] (aN ?_)))
         show _=(br,[AV.ah ba 0 W.L.length 1,AV.ah bd 0 W.L.length 1,AV.int .i64 ((us+1:Nat):Int)])::_
         rw[← l4]
         rfl
        |false=>
         refine aW 1 rfl (qq (by omega) hd) ?_
         rcases W.mach i ew with hm | ⟨t,r,hm,gS,hMe,gP⟩
         ·have:=oU i ew hm
          rw[bN (by show i<dn.length;omega)]at this
          exact absurd (hd.symm.trans (Option.some.inj this)) (by decide)
         refine .sched [] (.one 0 false (.one 2 false (.one 3 false (.one 4 false (.one 5 false (.one 6 false (.one 7 false (.one 8 false (.one 9 false (.alt 1 (.one 10 false (.one 11 false (.one 12 false .stop))) (.one 10 false (.one 1 false (.one 11 false (.one 12 false .stop)))))))))))))) (by kernel_rfl) ?_
         refine aQ ?_
         refine eH.mk 5 _ (AV.iface t (.ptr r 0)) rfl (zj ew hm) ?_
         refine aa 0 ?_
         refine And.intro ?_ ?_
         ·refine aa 2 ?_
          refine W.aStep [_,_,_,_,_,_] hMe gP (n:=us) (by omega) hf fun s' dS=>?_
          refine aQ ?_
          refine cu 1 rfl (ra _ (by omega)) ?_
          refine aa 2 ?_
          refine aQ ?_
          refine aW 3 rfl (vB (by omega)) ?_
          refine aQ ?_
          refine cu 3 rfl (vA _ (by omega)) ?_
          refine aa 2 ?_
          refine ag 2 ?_
          refine .mk (s',(st.set i (wr (st.getD i 0+1))),(dn.set i (W.step (W.abs s) i pd).2),us+1) rfl (by show ay.length-(us+1)<ay.length-us;omega) (vv hI lW bQ eu (by omega) eS hi ew hd dS) ⟨rfl,rfl,rfl,rfl,rfl,rfl,trivial⟩ (.drop 0 1 (.pull [2,2,0] (aN ?_)))
          show _=(br,[AV.ah ba 0 W.L.length 1,AV.ah bd 0 W.L.length 1,AV.int .i64 ((us+1:Nat):Int)])::_
          rw[← l4]
          rfl
         ·refine W.aStep [_,_,_,_,_,_] hMe gP (n:=us) (by omega) hf fun s' dS=>?_
          refine aa 2 ?_
          refine aQ ?_
          refine cu 1 rfl (ra _ (by omega)) ?_
          refine aa 2 ?_
          refine aQ ?_
          refine aW 3 rfl (vB (by omega)) ?_
          refine aQ ?_
          refine cu 3 rfl (vA _ (by omega)) ?_
          refine aa 2 ?_
          refine ag 2 ?_
          refine .mk (s',(st.set i (wr (st.getD i 0+1))),(dn.set i (W.step (W.abs s) i pd).2),us+1) rfl (by show ay.length-(us+1)<ay.length-us;omega) (vv hI lW bQ eu (by omega) eS hi ew hd dS) ⟨rfl,rfl,rfl,rfl,rfl,rfl,trivial⟩ (.drop 0 1 (.pull [2,2,0] (aN ?_)))
          show _=(br,[AV.ah ba 0 W.L.length 1,AV.ah bd 0 W.L.length 1,AV.int .i64 ((us+1:Nat):Int)])::_
          rw[← l4]
          rfl
set_option maxHeartbeats 4000000
theorem PW{α β:Type}(rs:List α)(L:List β)(i:Nat)(x:β)(h:i<rs.length):rs.zip (L.set i x)=(rs.zip L).set i (rs[i],x):=by
 refine List.ext_getElem (by simp) fun k h1 h2=>?_
 rw[GN]
 simp only[List.getElem_zip,GN]
 split
 ·rename_i he;subst he;rfl
 ·rfl
set_option maxHeartbeats 4000000
abbrev jO:Sh:=.field (.int .i64) (.field (.int .i64) .nil)
theorem ad7(W:AWorld)(lb:Nat)(ay:List (Int×Int×Unit))(s0:W.S)(σ:Hp)(hn:W.L.length≤100000)(hs:ay.length≤100000)(hf:W.free 0 (W.abs s0))(lW:∀a k,W.tell a k=a):
  ACalls Tryz.prog 101 [W.mv,.ah lb 0 W.L.length 1,.af jO ay] ((lb,W.L)::(W.B s0++σ)) (Iz W ay (W.abs s0) [(lb,W.L)] σ):=by
 refine au Tryz.func101 ?_
 intro aB
 refine .perm _ (nw (a:=(aB,[.ak,.ak,.int .i64 0])) (l₁:=(lb,W.L)::W.B s0) (l₂:=σ)) (adi W lb ay s0 ((aB,[.ak,.ak,.int .i64 0])::σ) hn hs hf lW) ?_
 rintro x σ' ⟨s',h1,rfl,rfl⟩
 refine⟨_,(nw (a:=(aB,[.ak,.ak,.int .i64 0])) (l₁:=(lb,W.L)::W.B s') (l₂:=σ)).symm,?_⟩
 refine ag 0 ?_
 refine aa 0 ?_
 exact .drop 0 1 (.done ⟨s',h1,rfl,rfl⟩)
theorem SC(sv:AV)(u:Int)(dn:List Bool)(σ:Hp)(hn:dn.length≤1000000):ACalls Tryz.prog 42 [.agg [sv,.af .bool dn,.int .i64 u]] σ (aD (.bool (dn.all id)) σ):=by
 refine au Tryz.func42 ?_
 intro aB
 refine aa 0 ?_
 refine bh (S:=Nat) (fun s=>[(6,.af .bool dn),(7,.int .i64 dn.length),(8,.int .i64 s)]) (fun _=>(aB,[sv,.af .bool dn,.int .i64 u])::σ) (fun s=>s≤dn.length∧(dn.take s).all id=true) (fun s=>dn.length-s) 0 ⟨⟨aY _,rfl⟩,⟨rfl,rfl,rfl,trivial⟩,rfl⟩ ?_
 rintro k g ⟨hk,bQ⟩
 refine aj (fun h=>?_) (fun h=>?_)
 ·have h:(k:Int)<dn.length:=h
  have gW:k<dn.length:=by omega
  cases hd:dn[k] with
  |true=>
   refine aw.mk rfl (aX.mk true (by omega) ((get_some gW).trans (congrArg some hd)) ?_)
   refine aM (k+1) ?_ ⟨gW,?_⟩ ⟨rfl,rfl,aL (by omega),trivial⟩ (aN rfl)
   ·show dn.length-(k+1)<dn.length-k;omega
   ·rw[eT gW,tb,bQ,hd];rfl
  |false=>
   refine aw.mk rfl (aX.mk false (by omega) ((get_some gW).trans (congrArg some hd)) ?_)
   exact .drop 0 1 (.done ⟨congrArg AV.bool (E7 gW hd).symm,rfl⟩)
 ·have h:¬(k:Int)<dn.length:=h
  exact .drop 0 1 (.done ⟨congrArg AV.bool (by rw[← dN (show dn.length≤k by omega)];exact bQ.symm),rfl⟩)
theorem adm(dn:List Bool)(σ:Hp)(hn:dn.length≤1000000):ACalls Tryz.prog 22 [.af .bool dn] σ (aD (.bool (dn.all id)) σ):=by
 refine au Tryz.func22 ?_
 refine bh (S:=Nat) (fun s=>[(5,.af .bool dn),(6,.int .i64 dn.length),(7,.int .i64 s)]) (fun _=>σ) (fun s=>s≤dn.length∧(dn.take s).all id=true) (fun s=>dn.length-s) 0 ⟨⟨aY _,rfl⟩,⟨rfl,rfl,rfl,trivial⟩,rfl⟩ ?_
 rintro k g ⟨hk,bQ⟩
 refine aj (fun h=>?_) (fun h=>?_)
 ·have h:(k:Int)<dn.length:=h
  have gW:k<dn.length:=by omega
  cases hd:dn[k] with
  |true=>
   refine aw.mk rfl (aX.mk true (by omega) ((get_some gW).trans (congrArg some hd)) ?_)
   refine aM (k+1) ?_ ⟨gW,?_⟩ ⟨rfl,rfl,aL (by omega),trivial⟩ (aN rfl)
   ·show dn.length-(k+1)<dn.length-k;omega
   ·rw[eT gW,tb,bQ,hd];rfl
  |false=>
   refine aw.mk rfl (aX.mk false (by omega) ((get_some gW).trans (congrArg some hd)) ?_)
   exact .done ⟨congrArg AV.bool (E7 gW hd).symm,rfl⟩
 ·have h:¬(k:Int)<dn.length:=h
  exact .done ⟨congrArg AV.bool (by rw[← dN (show dn.length≤k by omega)];exact bQ.symm),rfl⟩
theorem RJ(xs ys:List Int)(σ:Hp)(h1:xs.length≤1000000):ACalls Tryz.prog 21 [.af (.int .i64) xs,.af (.int .i64) ys] σ (aD (.bool (decide (xs=ys))) σ):=by
 refine au Tryz.func21 ?_
 refine cQ (fun hl=>?_) (fun hl=>?_)
 ·have:xs≠ys:=by rintro rfl;simp at hl
  exact .done ⟨by simp[this];rfl,rfl⟩
 ·have hl:(!decide ((xs.length:Int)=(ys.length:Int)))=false:=hl
  have hlen:xs.length=ys.length:=by simp at hl;omega
  refine bh (S:=Nat) (fun k=>[(0,.af (.int .i64) xs),(1,.af (.int .i64) ys),(12,.int .i64 xs.length),(13,.int .i64 k)]) (fun _=>σ) (fun k=>k≤xs.length∧xs.take k=ys.take k) (fun k=>xs.length-k) 0 ⟨⟨aY _,rfl⟩,⟨rfl,rfl,rfl,rfl,trivial⟩,rfl⟩ ?_
  rintro k g ⟨hk,dR⟩
  refine aj (fun ab=>?_) (fun aq=>?_)
  ·have eO:k<xs.length:=by omega
   have vU:k<ys.length:=by omega
   refine fX.quiet (by kernel_rfl) ?_
   refine aw.mk rfl (aX.mk xs[k] (by omega) (get_some eO) ?_)
   refine aw.mk rfl (aX.mk ys[k] (by omega) (get_some vU) ?_)
   refine cQ (fun hx=>?_) (fun hx=>?_)
   ·have:xs≠ys:=by rintro rfl;simp at hx
    exact .done ⟨by simp[this];rfl,rfl⟩
   ·have uw:xs[k]=ys[k]:=by simpa using hx
    refine next (k+1) (Nat.sub_lt_sub_left eO (ym k)) ⟨eO,?_⟩ ⟨rfl,rfl,rfl,aL (by omega),trivial⟩ rfl
    rw[eT eO,eT vU,dR,uw]
  ·obtain rfl:k=xs.length:=by omega
   have:xs=ys:=by
    rw[dW]at dR
    rw[dR,hlen,dW]
   exact .done ⟨by simp[this];rfl,rfl⟩
set_option maxHeartbeats 4000000
theorem ACalls.JW{P:Program}{f:FuncId}{xs:List AV}{σ σ2:Hp}{R R':AV→Hp→Prop}(h:ACalls P f xs σ2 R)(hp:σ2.Perm σ)(go:∀r σ',R r σ'→∃ef,ef.Perm σ'∧R' r ef):ACalls P f xs σ R':=
 ve (.perm R hp h go)
structure WZ where
 r:Nat
 c:AV
 acc:Hp
 x:WS
 rd:xH c acc x.now
def vY(s:Sy)(l:Lay)(y:(Nat×Nat)×WZ):Hp:=WB s l y.1.1 y.1.2 y.2.r y.2.c y.2.acc y.2.x
def dg(s:Sy)(l:Lay)(I:List (Nat×Nat))(Z:List WZ):Hp:=(I.zip Z).flatMap (vY s l)
structure WA where
 W:List WS
 ws:List Int
structure qX where
 ws:List Int
 Z:List WZ
def qX.abs(t:qX):WA:=⟨t.Z.map (·.x),t.ws⟩
def fI(s:Sy)(l:Lay)(a:WA)(i:Nat)(d:Int):WA×Bool:=match a.W[i]? with
 |some x=>(⟨a.W.set i (cW bF s l i x d a.ws).1,(cW bF s l i x d a.ws).2.1⟩,(cW bF s l i x d a.ws).2.2)
 |none=>(a,true)
structure sD(s:Sy)(l:Lay)(a:WA):Prop where
 len:(a.W.length:Int)=l.k
 fl:oV s l a.ws
 wv:∀(i:Nat) (x:WS),a.W[i]?=some x→WV s l i x
theorem A8{s:Sy}{l:Lay}{a:WA}{i:Nat}{d:Int}{x:WS}(h:a.W[i]?=some x):fI s l a i d=(⟨a.W.set i (cW bF s l i x d a.ws).1,(cW bF s l i x d a.ws).2.1⟩,(cW bF s l i x d a.ws).2.2):=by
 unfold fI;rw[h]
theorem sD.step{s:Sy}{l:Lay}{a:WA}(hs:LS s l)(h:sD s l a)(i:Nat)(d:Int):sD s l (fI s l a i d).1:=by
 cases hx:a.W[i]? with
 |none=>unfold fI;rw[hx];exact h
 |some x=>
  rw[A8 hx]
  have hi:=(cR.1 hx).1
  have hl:=h.len
  obtain⟨h1,h2,h3⟩:=Zl (d:=d) hs ⟨by omega,by omega⟩ h.fl.2 (h.wv i x hx)
  refine⟨?_,⟨h2.trans h.fl.1,h1⟩,fun j y hy=>?_⟩
  ·show ((a.W.set i _).length:Int)=l.k
   rw[dV];exact hl
  ·have hy:(a.W.set i (cW bF s l i x d a.ws).1)[j]?=some y:=hy
   rw[gX]at hy
   by_cases mf:i=j
   ·subst mf
    rw[az rfl,az hi]at hy
    cases hy
    exact h3
   ·rw[aA mf]at hy
    exact h.wv j y hy
section
variable {s:Sy} {l:Lay} {p q:Nat} {I:List (Nat×Nat)}
theorem PX{Z:List WZ}{i:Nat}(hi:i<I.length)(hz:i<Z.length):(dg s l I Z).Perm (WB s l I[i].1 I[i].2 Z[i].r Z[i].c Z[i].acc Z[i].x++((I.zip Z).eraseIdx i).flatMap (vY s l)):=by
 have h:i<(I.zip Z).length:=by simp;omega
 have h1:=HC (f:=vY s l) h
 have e:(I.zip Z)[i]=(I[i],Z[i]):=by simp
 rw[e]at h1
 exact h1
theorem Xo{Z:List WZ}{i:Nat}(hi:i<I.length)(hz:i<Z.length)(y:WZ):(dg s l I (Z.set i y)).Perm (WB s l I[i].1 I[i].2 y.r y.c y.acc y.x++((I.zip Z).eraseIdx i).flatMap (vY s l)):=by
 have h:i<(I.zip Z).length:=by simp;omega
 have h1:=Oy (f:=vY s l) h (I[i],y)
 rw[← PW _ _ _ _ hi]at h1
 exact h1
theorem wzP{X Y:Hp}(b:Hp)(h:X.Perm (b++Y))(ws:List Int)(σ:Hp):(bD p q ws X++σ).Perm (b++bD p q ws (Y++σ)):=by
 have h1:(bD p q ws X++σ).Perm (bD p q ws (b++Y)++σ):=List.Perm.append_right σ (List.Perm.append_left [_,_] h)
 refine h1.trans ?_
 show ([(p,sQ q ws.length),(q,aP ws)]++((b++Y)++σ)).Perm (b++([(p,sQ q ws.length),(q,aP ws)]++(Y++σ)))
 rw[dh]
 exact hG [[(p,sQ q ws.length),(q,aP ws)],b,Y] σ (a:=[0,1,2]) (b:=[1,0,2]) (by decide)
theorem ad3{t:qX}{i:Nat}{d:Int}(σ:Hp)(hs:LS s l)(hi:i<I.length)(hI:I[i].1=i)(hk:(I.length:Int)=l.k)(hf:sD s l t.abs):ACalls Tryz.prog 390 [.ptr I[i].2 0,kp p,.int .i64 d] (bD p q t.ws (dg s l I t.Z)++σ) (fun x σ'=>∃t':qX,t'.abs=(fI s l t.abs i d).1∧x=.bool (fI s l t.abs i d).2∧σ'=bD p q t'.ws (dg s l I t'.Z)++σ):=by
 have hz:i<t.Z.length:=by
  have h1:=hf.len
  have h2:((t.Z.map (·.x)).length:Int)=l.k:=h1
  rw[cm]at h2;omega
 have hW:t.abs.W[i]?=some t.Z[i].x:=by
  show (t.Z.map (·.x))[i]?=_
  rw[fm,bN hz];rfl
 have hB:=wzP (p:=p) (q:=q) _ (PX (s:=s) (l:=l) hi hz) t.ws σ
 have x9:=fun (ws:List Int) (y:WZ)=>wzP (p:=p) (q:=q) _ (Xo (s:=s) (l:=l) hi hz y) ws σ
 have K3:=hf.wv i _ hW
 rw[hI]at hB x9
 have ao:=A8 (s:=s) (l:=l) (d:=d) hW
 have kM:∀(y:WZ),(t.Z.set i y).map (·.x)=t.abs.W.set i y.x:=fun y=>by show _=(t.Z.map (·.x)).set i y.x;rw[s8]
 rw[ao]
 refine (aet p q I[i].2 t.Z[i].r t.Z[i].c t.Z[i].acc s l i t.Z[i].x d t.ws (((I.zip t.Z).eraseIdx i).flatMap (vY s l)++σ) hs.fit hf.fl.2.a64 (K3.ok hs) t.Z[i].rd (x':=(cW bF s l i t.Z[i].x d t.ws).1) (ws':=(cW bF s l i t.Z[i].x d t.ws).2.1) (b:=(cW bF s l i t.Z[i].x d t.ws).2.2) rfl).JW hB.symm ?_
 rintro _ _ ⟨r',c',aU,mb,rfl,rfl⟩
 refine⟨_,x9 _ ⟨r',c',aU,(cW bF s l i t.Z[i].x d t.ws).1,mb⟩,⟨(cW bF s l i t.Z[i].x d t.ws).2.1,t.Z.set i ⟨r',c',aU,(cW bF s l i t.Z[i].x d t.ws).1,mb⟩⟩,?_,rfl,rfl⟩
 exact congrArg (fun z=>WA.mk z _) (kM _)
end
theorem mWorker_ : Meth Tryz.prog 168 "Step" 390 := fun a w => by kernel_rfl
def Bx(s:Sy)(l:Lay)(hs:LS s l)(p q:Nat)(I:List (Nat×Nat))(hI:∀i (h:i<I.length),I[i].1=i)(hk:(I.length:Int)=l.k):AWorld where
 A:=WA
 S:=qX
 abs:=qX.abs
 B t:=bD p q t.ws (dg s l I t.Z)
 L:=I.map fun y=>.iface 168 (.ptr y.2 0)
 mt:=94
 mx:=.ptr p 0
 step:=fI s l
 tell a _:=a
 free _:=sD s l
 keeps _ a i d _ h _:=h.step hs i d
 told _ _ _ h:=h
 more _ _ h:=h
 mach i h:=by
  have hi:i<I.length:=by simpa using h
  refine .inr ⟨168,I[i].2,by simp,_,mWorker_,fun _ t d σ _ hf=>?_⟩
  refine (ad3 (p:=p) (q:=q) (t:=t) (d:=d) σ hs hi (hI i hi) hk hf).mono ?_
  rintro _ _ ⟨t',h1,rfl,rfl⟩
  exact⟨t',h1,rfl,rfl⟩
set_option maxHeartbeats 4000000
def ic(l:Lay)(ws:List Int)(n:Nat):List (List Int):=(List.range n).map fun v:Nat=>ki (df l v) ws (cw l.words)
theorem UN(bl bm p q v:Nat)(l:Lay)(ws:List Int)(τ:Hp):ACalls Tryz.prog 105 [.int .i64 v,.ptr bl 0,.ptr bm 0] ((bl,cU l)::(bm,[kp p])::bD p q ws τ) (aD (.af (.int .u64) (ki (df l v) ws (cw l.words))) ((bl,cU l)::(bm,[kp p])::bD p q ws τ)):=by
 refine au Tryz.func105 ?_
 refine .quiet (by kernel_rfl) ?_
 refine aa 0 ?_
 refine aK [] (Fc l v _) ?_
 refine aa 1 ?_
 refine aK [3,3] (aez p q ws _ _ _ _) ?_
 exact .done ⟨rfl,rfl⟩
theorem AS(p q:Nat)(l:Lay)(n:Nat)(ws:List Int)(σ:Hp)(hn:l.n=n)(mG:n≤100000):ACalls Tryz.prog 43 [kp p,.agg (cU l)] (bD p q ws σ) (aD (.af (.slice (.int .u64)) (ic l ws n)) (bD p q ws σ)):=by
 refine au Tryz.func43 ?_
 intro bm
 intro bl
 refine aa 0 ?_
 have hE:=fun τ=>ach 105 [.ptr bl 0,.ptr bm 0] ((bl,cU l)::(bm,[kp p])::bD p q ws []) τ (fun v:Nat=>ki (df l v) ws (cw l.words)) n mG (fun i _ τ=>UN bl bm p q i l ws τ)
 rw[← hn]at hE
 refine ar [] (hE _) ?_
 exact .drop 0 2 (.done ⟨rfl,rfl⟩)
def cT(mv:AV)(l:Lay)(wv st dn:AV)(us:Int):List AV:=[mv,.int .i64 l.ai,.int .i64 l.words,.int .i64 l.n,.int .i64 l.k,wv,st,dn,.int .i64 us]
def pW(w:Nat):AV:=.ptr w 0
def iW(w:Nat):AV:=.iface 168 (.ptr w 0)
theorem abU(bs bp i:Nat)(s:Sy)(l:Lay)(mv wv st dn:AV)(us:Int)(τ:Hp)(hf:Fit s)(he:cO s l.k=0)(hL:gH s l.k=l)(h1:(i:Int)<l.k):ACalls Tryz.prog 99 [.int .i64 i,.ptr bs 0,.ptr bp 0] ((bs,a7 s)::(bp,cT mv l wv st dn us)::τ) (fun r σ'=>∃w,r=.ptr w 0∧σ'=WB s l i w 0 .ak [] kn++((bs,a7 s)::(bp,cT mv l wv st dn us)::τ)):=by
 refine au Tryz.func99 ?_
 refine aa 0 ?_
 refine aa 1 ?_
 (refine .mk [] _ (aca s l i _ hf he hL (by omega) h1) ?_;rintro _ _ ⟨w,rfl,rfl⟩)
 exact .done ⟨w,rfl,rfl⟩
theorem abT(bp lw i n:Nat)(L:List Nat)(l:Lay)(mv st dn:AV)(us:Int)(τ:Hp)(hl:L.length=n)(hi:i<n):ACalls Tryz.prog 103 [.int .i64 i,.ptr bp 0] ((bp,cT mv l (.ah lw 0 n 1) st dn us)::(lw,L.map pW)::τ) (aD (iW (L.getD i 0)) ((bp,cT mv l (.ah lw 0 n 1) st dn us)::(lw,L.map pW)::τ)):=by
 have hg:(L.map pW)[0+((i:Int)).toNat*1]?=some (.ptr (L.getD i 0) 0):=by
  rw[bR,dB,dU,fm,bN (by omega),bO,bN (by omega)];rfl
 refine au Tryz.func103 ?_
 refine aa 0 ?_
 refine aQ ?_
 refine aW 1 rfl (gy rfl hg) ?_
 exact .done ⟨rfl,rfl⟩
def bA(L:List Nat):List (Nat×Nat):=(List.range L.length).zip L
def ji:WZ:=⟨0,.ak,[],kn,trivial⟩
theorem yL(L:List Nat):∀i (h:i<(bA L).length),(bA L)[i].1=i:=fun i h=>by simp[bA]
theorem sk(L:List Nat):(bA L).length=L.length:=by simp[bA]
theorem Ya(L:List Nat):(bA L).map (fun y=>AV.iface 168 (.ptr y.2 0))=L.map iW:=by
 unfold bA
 have:(fun y:Nat×Nat=>AV.iface 168 (.ptr y.2 0))=iW ∘ Prod.snd:=rfl
 rw[this,← List.map_map,List.map_snd_zip (by simp)]
theorem Xn(s:Sy)(l:Lay)(L:List Nat)(w:Nat):dg s l (bA (L++[w])) (List.replicate (L++[w]).length ji)=dg s l (bA L) (List.replicate L.length ji)++WB s l L.length w 0 .ak [] kn:=by
 have e1:bA (L++[w])=bA L++[(L.length,w)]:=by
  unfold bA
  rw[List.length_append,List.length_singleton,List.range_succ,List.zip_append (by simp)];rfl
 have e2:List.replicate (L++[w]).length ji=List.replicate L.length ji++[ji]:=by
  rw[bG,yv,List.replicate_succ']
 unfold dg
 rw[e1,e2,gs9 (by rw[gY,sk]),wV]
 rfl
set_option maxHeartbeats 4000000
theorem Jx{n:Nat}(h:n<9000000000000000000):wr (n:Int)=n:=by
 show IntKind.i64.wrap _=_
 rw[IntKind.wrap_i64];omega
set_option maxHeartbeats 4000000
theorem BT(a:List Int)(i:Nat):a.getD i 0=wd a i:=by rw[bO];rfl
section
variable {s:Sy} {l:Lay} (hs:LS s l)
include hs
theorem LS.ado:ej s.ai s.w=(nW l:Int):=by have:=hs.words;have:=hs.ww;omega
theorem LS.SD{a:List Int}:mO s.ai s.w a↔(a.length=nW l∧∀i,i<nW l→ju s.ai s.w i (a.getD i 0)):=by
 rw[AU hs.kO.uv,hs.ado]
 constructor
 ·rintro⟨h1,h2⟩
  have h1:a.length=nW l:=by omega
  exact⟨h1,fun i hi=>by rw[BT];exact h2 i (by omega)⟩
 ·rintro⟨h1,h2⟩
  exact⟨by omega,fun i hi=>by rw[← BT];exact h2 i (by omega)⟩
end
theorem NS{α:Type}{W:List α}{i:Nat}{x:α}(h:W[i]?=some x):W.set i x=W:=by
 refine wO fun j=>?_
 rw[gX]
 by_cases hj:i=j
 ·subst hj;rw[az rfl,az (cR.1 h).1,h]
 ·rw[aA hj]
section
variable {s:Sy} {l:Lay} {hs:LS s l} {W:List WS} {ws:List Int} {D:List (List Nat)} {T:Nat→Nat} {M:Nat}
end
set_option maxHeartbeats 4000000
theorem U1{s:Sy}{l:Lay}(cM:jP s l)(hn:nN s≤256):j0 l.k.toNat (jQ (nN s) l.k.toNat s.cI) (vI (nN s) s.cI s.entry).reverse=mV s l:=by
 have h:vI (nN s) s.cI s.entry=qI (nN s) s.cI s.entry:=Ra cM.post (by omega) (fun p hp x hx=>cM.flat.rg x (nu.2 ⟨p,hp,hx⟩)) cM.flat.nd
 rw[h];rfl
theorem YW(s:Sy)(l:Lay)(σ:Hp)(hs:LS s l)(cM:jP s l):ACalls Tryz.prog 83 [.int .i64 s.n,.af cb s.cI,.af (.int .i64) s.entry,.int .i64 l.k] σ (aD (.af (.slice (.int .i64)) (mV s l)) σ):=by
 have h1:=hs.nn
 obtain⟨k,hk,jE,cY⟩:=hs.kk
 have he:=hs.kO.Mc
 have gN:l.k.toNat=k:=by omega
 have zl:=U1 cM h1.2.2
 have jT:=cM.own
 rw[gN]at zl jT
 rw[hk]
 have hn:=h1.1
 rw[hn]at he ⊢
 refine (YV (nN s) s.cI s.entry k σ hs.fit.ub h1.2.1 h1.2.2 jE cY hs.fit.vQ he jT).mono ?_
 rintro _ _ ⟨ls,rfl,rfl,rfl⟩
 exact⟨by rw[zl],rfl⟩
def gJ(s:Sy)(l:Lay):List Int:=zq s l (List.replicate (fL l) 0)
theorem aaM(s:Sy)(l:Lay)(σ:Hp)(hs:LS s l)(cM:jP s l):ACalls Tryz.prog 36 [.agg (a7 s),.agg (cU l)] σ (fun r σ'=>∃m q,r=.ptr m 0∧σ'=bu m q (gJ s l) σ∧(gJ s l).length=fL l):=by
 obtain⟨hsz1,hsz2,adL⟩:=hs.size
 have hn:=hs.nn
 have hw:=hs.ww
 refine au Tryz.func36 ?_
 intro aB
 intro cE
 refine aa 0 ?_
 refine ar [] (aaH l _) ?_
 (refine .mk [] _ (ada _ _) ?_;rintro _ _ ⟨m,q,rfl,rfl⟩)
 rw[adL]
 have hN:=hs.n
 have sK:=hs.low
 have qM:(List.replicate (fL l) (0:Int)).length=fL l:=gY
 have ik:(gJ s l).length=fL l:=(TR _ _ _ _ _).trans qM
 have pI:gJ s l=l6 (nN s*nW l+nN s+1) (nN s+3) (nN s+1) (mV s l) ((nG (nN s) (nW l) (fun v=>gx s v) (List.replicate (fL l) 0) (nN s)).set (nN s*nW l+nN s) (nN s:Int)) (mV s l).length:=rfl
 have fh:=fun v=>Hi (nN s) (nW l) (fun v=>gx s v) (List.replicate (fL l) 0) v
 rw[qM]at fh
 refine bh (S:=Nat) (fun t=>[(2,.ptr aB 0),(3,.ptr cE 0),(5,.ptr m 0),(6,.int .i64 t)]) (fun t=>(m,[AV.ah q 0 (fL l) 1])::(q,aP (nG (nN s) (nW l) (fun v=>gx s v) (List.replicate (fL l) 0) t))::(cE,cU l)::(aB,a7 s)::σ) (fun t=>t≤nN s) (fun t=>nN s-t) 0 ⟨aY _,⟨rfl,rfl,rfl,rfl,trivial⟩,by show (m,[AV.ah q 0 (List.replicate (fL l) (0:Int)).length 1])::_=_;rw[qM];rfl⟩ ?_
 intro v g ma
 have hv:v≤nN s:=ma
 clear ma
 refine aa 2 ?_
 refine aj (p:=(v:Int)<l.n) (fun ab=>?_) (fun aq=>?_)
 ·have ab:v<nN s:=by omega
  refine aa 3 ?_
  refine ar [] (Xf s v _ hs.fit hs.kO) ?_
  have ao:=HN hs.fit hs.kO v
  have hsv:mO s.ai s.w (gx s v):=⟨ao.1,ao.2⟩
  have adN:=(AU hs.kO.uv).1 hsv
  have SP:(gx s v).length=nW l:=by have:=adN.1;have:=hs.words;omega
  have cz:nG (nN s) (nW l) (fun v=>gx s v) (List.replicate (fL l) 0) (v+1)=(qD (v*nW l) (gx s v) (nG (nN s) (nW l) (fun v=>gx s v) (List.replicate (fL l) 0) v) (nW l)).set (nN s*nW l+v) 1:=rfl
  have eu:=fh v
  generalize nG (nN s) (nW l) (fun v=>gx s v) (List.replicate (fL l) 0) v=us at cz eu
  generalize gx s v=st at SP cz
  refine bh (S:=Nat) (fun t=>[(2,.ptr aB 0),(3,.ptr cE 0),(5,.ptr m 0),(6,.int .i64 v),(25,.af (.int .u64) st),(26,.int .i64 st.length),(27,.int .i64 t)]) (fun t=>(m,[AV.ah q 0 (fL l) 1])::(q,aP (qD (v*nW l) st us t))::(cE,cU l)::(aB,a7 s)::σ) (fun t=>t≤st.length) (fun t=>st.length-t) 0 ⟨aY _,⟨rfl,rfl,rfl,rfl,rfl,rfl,rfl,trivial⟩,rfl⟩ ?_
  intro i g2 dc
  have hi:i≤st.length:=dc
  clear dc
  have qL:=(ML (v*nW l) st us i).trans eu
  refine aj (p:=(i:Int)<(st.length:Int)) (fun db=>?_) (fun jx=>?_)
  ·have db:i<st.length:=by omega
   have hiW:i<nW l:=by omega
   obtain⟨x,hx⟩:∃x,st[i]=x:=⟨_,rfl⟩
   have hwd:=oE st db
   rw[hx]at hwd
   have kI:IntKind.i64.wrap (IntKind.i64.wrap ((v:Int)*l.words)+(i:Int))=((v*nW l+i:Nat):Int):=hs.Fv ab hiW
   have fh:=IU ab hiW
   refine aw.mk rfl (aX.mk x (by omega) ((get_some db).trans (congrArg some hx)) ?_)
   refine .sched [] (upto [] 13 0) (by kernel_rfl) ?_
   refine aa 0 ?_
   refine aa 2 ?_
   refine aw.mk ⟨rfl,by rw[kI];omega,by rw[kI];omega⟩ ?_
   refine cu 1 rfl (qx (i:=v*nW l+i) (by omega) x kI) ?_
   exact aM (i+1) (by show st.length-(i+1)<st.length-i;omega) db ⟨rfl,rfl,rfl,rfl,rfl,rfl,aL (by omega),trivial⟩ (aN (by rw[qD,hwd];rfl))
  ·have jx:i=st.length:=by omega
   subst jx
   refine .sched [] (upto [] 13 0) (by kernel_rfl) ?_
   refine aa 0 ?_
   refine aa 2 ?_
   refine aa 2 ?_
   have Kf:IntKind.i64.wrap (IntKind.i64.wrap (l.n*l.words)+(v:Int))=((nN s*nW l+v:Nat):Int):=hs.BU ab
   refine aw.mk ⟨rfl,by rw[Kf];omega,by rw[Kf];omega⟩ ?_
   refine cu 1 rfl (qx (i:=nN s*nW l+v) (by omega) 1 Kf) ?_
   exact aM (v+1) (by show nN s-(v+1)<nN s-v;omega) ab ⟨rfl,rfl,rfl,aL (by omega),trivial⟩ (aN (by rw[cz,SP];rfl))
 have aq:v=nN s:=by omega
 subst aq
 have eu:=fh (nN s)
 obtain⟨us,gb⟩:∃us,nG (nN s) (nW l) (fun v=>gx s v) (List.replicate (fL l) 0) (nN s)=us:=⟨_,rfl⟩
 rw[gb]at eu pI ⊢
 refine .sched [] (upto [] 17 0) (by kernel_rfl) ?_
 refine aa 0 ?_
 refine aa 2 ?_
 refine aa 2 ?_
 refine aa 2 ?_
 refine aa 2 ?_
 have yf:IntKind.i64.wrap (IntKind.i64.wrap (l.n*l.words)+l.n)=((nN s*nW l+nN s:Nat):Int):=hs.count
 refine aw.mk ⟨rfl,by rw[yf];omega,by rw[yf];omega⟩ ?_
 refine cu 1 rfl (qx (i:=nN s*nW l+nN s) (by omega) _ yf) ?_
 have xN:IntKind.u64.wrap l.n=(nN s:Int):=by rw[IntKind.wrap_u64];omega
 refine aa 3 ?_
 refine aa 3 ?_
 refine aa 3 ?_
 refine aa 2 ?_
 refine ar [] (YW s l _ hs cM) ?_
 have hx:=cM.rows hn.2.2
 have dx:=MN s l
 generalize mV s l=ls at hx dx pI
 obtain⟨v7,zE⟩:∃v7,us.set (nN s*nW l+nN s) (nN s:Int)=v7:=⟨_,rfl⟩
 have adJ:v7.length=fL l:=by rw[← zE,dV];exact eu
 rw[zE]at pI
 refine bh (S:=Nat) (fun t=>[(3,.ptr cE 0),(5,.ptr m 0),(81,.af (.slice (.int .i64)) ls),(82,.int .i64 ls.length),(83,.int .i64 t)]) (fun t=>(m,[AV.ah q 0 (fL l) 1])::(q,aP (l6 (nN s*nW l+nN s+1) (nN s+3) (nN s+1) ls v7 t))::(cE,cU l)::(aB,a7 s)::σ) (fun t=>t≤ls.length) (fun t=>ls.length-t) 0 ⟨aY _,⟨rfl,rfl,rfl,rfl,rfl,trivial⟩,by
  show (m,[AV.ah q 0 (fL l) 1])::(q,aP (us.set (nN s*nW l+nN s) (IntKind.u64.wrap l.n)))::_=_
  rw[xN,zE];rfl⟩ ?_
 intro w g2 dc
 have hi:w≤ls.length:=dc
 clear dc
 refine aj (p:=(w:Int)<(ls.length:Int)) (fun ab=>?_) (fun aq=>?_)
 rotate_left
 ·have aq:w=ls.length:=by omega
  subst aq
  rw[← pI]
  exact .drop 2 2 (.done ⟨m,q,rfl,by unfold bu;rw[ik];rfl,ik⟩)
 have ab:w<ls.length:=by omega
 obtain⟨x,pT⟩:∃x:List Int,ls[w]=x:=⟨_,rfl⟩
 obtain⟨x7,CL⟩:=hx _ (cq ab)
 rw[pT]at x7 CL
 have K0:ls.getD w []=x:=by rw[bO,bN ab,pT];rfl
 obtain⟨k,hk,jE,cY⟩:=hs.kk
 have C1:=hs.xF (k:=w) (by omega)
 have ae8:=hs.acU (k:=w) (by omega)
 have cz:l6 (nN s*nW l+nN s+1) (nN s+3) (nN s+1) ls v7 (w+1)=wY (nN s*nW l+nN s+1+w*(nN s+3)) (nN s+1) x (l6 (nN s*nW l+nN s+1) (nN s+3) (nN s+1) ls v7 w):=by rw[l6,K0]
 have uA:=(MZ (nN s*nW l+nN s+1) (nN s+3) (nN s+1) ls v7 w).trans adJ
 refine aw.mk rfl (aX.mk x (by omega) ((get_some ab).trans (congrArg some pT)) ?_)
 refine aa 2 ?_
 refine ar [] (qj (Be l w _) (congrArg (AV.int .i64) C1)) ?_
 have nr:nN s*nW l+nN s+1+w*(nN s+3)+nN s+3≤fL l:=by
  obtain⟨a,q1,q2,q3⟩:=ae8
  omega
 generalize nN s*nW l+nN s+1+w*(nN s+3)=a at C1 cz nr
 generalize l6 (nN s*nW l+nN s+1) (nN s+3) (nN s+1) ls v7 w=vs at cz uA
 refine aa 0 ?_
 refine aQ ?_
 refine cu 1 rfl (qx (l:=vs) (i:=a) (by omega) 1 rfl) ?_
 have hv1:(vs.set a 1).length=fL l:=by rw[dV];exact uA
 have ha3:IntKind.i64.wrap ((a:Int)+1)=((a+1:Nat):Int):=by rw[IntKind.wrap_i64];omega
 refine aa 0 ?_
 refine aQ ?_
 refine cu 1 rfl (qx (l:=vs.set a 1) (i:=a+1) (by omega) _ ha3) ?_
 have CS:IntKind.u64.wrap (IntKind.i64.wrap (1+(x.length:Int)))=((1+x.length:Nat):Int):=by
  rw[show IntKind.i64.wrap (1+(x.length:Int))=1+(x.length:Int) from iq (by omega) (by omega),IntKind.wrap_u64];omega
 refine bh (S:=Nat) (fun t=>[(3,.ptr cE 0),(5,.ptr m 0),(11,.int .i64 a),(81,.af (.slice (.int .i64)) ls),(82,.int .i64 ls.length),(83,.int .i64 w),(108,.af (.int .i64) x),(109,.int .i64 x.length),(110,.int .i64 t)]) (fun t=>(m,[AV.ah q 0 (fL l) 1])::(q,aP (kW a (nN s+1) x ((vs.set a 1).set (a+1) ((1+x.length:Nat):Int)) t))::(cE,cU l)::(aB,a7 s)::σ) (fun t=>t≤x.length) (fun t=>x.length-t) 0 ⟨aY _,⟨rfl,rfl,rfl,rfl,rfl,rfl,rfl,rfl,rfl,trivial⟩,by
  show (m,[AV.ah q 0 (fL l) 1])::(q,aP ((vs.set a 1).set (a+1) (IntKind.u64.wrap (IntKind.i64.wrap (1+(x.length:Int))))))::_=_
  rw[CS];rfl⟩ ?_
 intro j g3 jk
 have hj:j≤x.length:=jk
 clear jk
 refine aj (p:=(j:Int)<(x.length:Int)) (fun db=>?_) (fun jx=>?_)
 rotate_left
 ·have jx:j=x.length:=by omega
  subst jx
  exact aM (w+1) (by show ls.length-(w+1)<ls.length-w;omega) ab ⟨rfl,rfl,rfl,rfl,aL (by omega),trivial⟩ (aN (by rw[cz];rfl))
 have db:j<x.length:=by omega
 obtain⟨z,hz⟩:∃z,x[j]=z:=⟨_,rfl⟩
 have gU:=CL z (hz▸cq db)
 have KW:x.getD j 0=z:=by rw[bO,bN db,hz];rfl
 refine aw.mk rfl (aX.mk z (by omega) ((get_some db).trans (congrArg some hz)) ?_)
 have e3:IntKind.i64.wrap (l.n+1)=((nN s+1:Nat):Int):=by rw[IntKind.wrap_i64];omega
 have lG:IntKind.i64.wrap (IntKind.i64.wrap ((a:Int)+2)+(IntKind.i64.wrap (1+(j:Int))).tmod (IntKind.i64.wrap (l.n+1)))=((a+2+(1+j) % (nN s+1):Nat):Int):=Nz hs (by omega) (by omega)
 have zQ:IntKind.u64.wrap z=z:=by rw[IntKind.wrap_u64];omega
 have Kb:=wL (1+j) (show 0<nN s+1 by omega)
 have kT:=NB a (nN s+1) x ((vs.set a 1).set (a+1) ((1+x.length:Nat):Int)) j
 rw[dV,hv1]at kT
 refine .sched [] (upto [] 17 0) (by kernel_rfl) ?_
 refine aa 0 ?_
 refine aa 2 ?_
 refine aw.mk (by rw[e3];omega) ?_
 refine aw.mk ⟨rfl,by rw[lG];omega,by rw[lG];omega⟩ ?_
 refine cu 1 rfl (qx (i:=a+2+(1+j) % (nN s+1)) (by omega) _ lG) ?_
 exact aM (j+1) (by show x.length-(j+1)<x.length-j;omega) db ⟨rfl,rfl,rfl,rfl,rfl,rfl,rfl,rfl,aL (by omega),trivial⟩ (aN (by rw[kW,KW,zQ];rfl))
def W0(l:Lay):List WS:=List.replicate l.k.toNat kn
def rY(s:Sy)(l:Lay)(ay:List (Int×Int×Unit))(x:iQ WA):iQ WA:=jl (fI s l) (fun a _=>a) l.k.toNat ay x
def zK(s:Sy)(l:Lay):iQ WA:=⟨⟨W0 l,gJ s l⟩,List.replicate l.k.toNat 0,List.replicate l.k.toNat false,0⟩
def a8(s:Sy)(l:Lay)(ay:List (Int×Int×Unit)):iQ WA:=rY s l ay (zK s l)
def lJ(W:List WS):Int:=W.foldl (fun a x=>wr (a+x.ev)) 0
def lB(W:List WS):Int:=W.foldl (fun a x=>wr (a+x.jo)) 0
theorem PF{W:List WS}{i:Nat}(h:i<W.length):wr (lJ (W.take i)+W[i].ev)=lJ (W.take (i+1)):=by
 unfold lJ;rw[eT h,uQ];rfl
theorem Pv{W:List WS}{i:Nat}(h:i<W.length):wr (lB (W.take i)+W[i].jo)=lB (W.take (i+1)):=by
 unfold lB;rw[eT h,uQ];rfl
set_option maxHeartbeats 4000000
section
variable {N W:Nat} {st:Nat→List Int} {ws:List Int}
end
section
variable {b0 N:Nat} {ls:List (List Int)} {ws:List Int}
end
section
variable {s:Sy} {l:Lay} (hs:LS s l)
include hs
theorem LS.UW{v i:Nat}(hi:i<nW l):ju s.ai s.w i (wd (gx s v) i):=by
 have h:=(hs.SD).1 (VV hs.fit hs.kO v)
 rw[← BT];exact h.2 i hi
theorem Qv{v:Nat}{ws:List Int}(h:oV s l ws):∀k,k≤nW l→oV s l (qD (v*nW l) (gx s v) ws k)
 | 0,_=>h
 |k+1,hk=>by
  have ih:=Qv h k (by omega) (v:=v)
  rw[qD]
  exact⟨by rw[dV];exact ih.1,ih.2.XC (by omega) (hs.UW (by omega))⟩
theorem PC{ws:List Int}(h:oV s l ws):∀k,oV s l (nG (nN s) (nW l) (fun v=>gx s v) ws k)
 | 0=>h
 |k+1=>by
  rw[nG]
  exact (Qv hs (PC h k) _ (bJ _)).hi (by omega) (by unfold bP;omega)
theorem Rq{b r:Nat}{x ws:List Int}(hb:nN s*nW l≤b)(hx:∀z∈x,0≤z∧z<(nN s:Int))(h:oV s l ws):∀k,oV s l (kW b r x ws k)
 | 0=>h
 |k+1=>by
  rw[kW]
  refine (Rq hb hx h k).hi (by omega) ?_
  have hn:=hs.nn
  rw[bO]
  cases hk:x[k]? with
  |none=>exact xi
  |some z=>
   have:=hx z (dm hk)
   show bP z
   unfold bP;omega
theorem Rp{ls:List (List Int)}{ws:List Int}(hx:∀x∈ls,x.length≤256∧∀z∈x,0≤z∧z<(nN s:Int))(h:oV s l ws):∀k,oV s l (l6 (nN s*nW l+nN s+1) (nN s+3) (nN s+1) ls ws k)
 | 0=>h
 |k+1=>by
  rw[l6,wY]
  have h2:(ls.getD k []).length≤256∧∀z∈ls.getD k [],0≤z∧z<(nN s:Int):=by
   rw[bO]
   cases hk:ls[k]? with
   |none=>exact⟨aY _,fun z hz=>by cases hz⟩
   |some x=>exact hx x (dm hk)
  refine Rq hs (by omega) h2.2 (((Rp hx h k).hi (by omega) (by unfold bP;omega)).hi (by omega) ?_) _
  unfold bP;omega
theorem aa2(cM:jP s l):oV s l (gJ s l):=by
 unfold gJ zq Fq
 have hn:=hs.nn
 refine Rp hs (cM.rows hn.2.2) (oV.hi (PC hs ⟨gY,ZY s l _⟩ _) (by omega) ?_) _
 unfold bP;omega
end
section
variable {s:Sy} {l:Lay} (hs:LS s l) (cM:jP s l)
include hs cM
end
section
variable {s:Sy} {l:Lay} {hs:LS s l} (cM:jP s l)
include cM
theorem Ro(hs:LS s l):sD s l ⟨W0 l,gJ s l⟩:=by
 have jE:=hs.k1
 refine⟨by show ((W0 l).length:Int)=l.k;unfold W0;rw[gY];omega,aa2 hs cM,fun i x hx=>?_⟩
 rw[G6 (dm hx)]
 exact wv0 hs i
end
end Go.Proofs.YtnikdflhefijbaaGreat
