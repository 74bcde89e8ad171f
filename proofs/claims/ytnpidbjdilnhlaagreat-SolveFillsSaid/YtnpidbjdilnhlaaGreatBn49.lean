import Derived.Test.YtnpidbjdilnhlaaGreatBn13
namespace Go.Proofs.YtnpidbjdilnhlaaGreat
open Go.RowKit
set_option maxRecDepth 100000
set_option maxHeartbeats 4000000
def gY(p:Int)(n:Nat):Nat:=if n<1 then 0 else (p % (n:Int)).toNat
theorem Am{p:Int}{n:Nat}(h:0<n):gY p n<n:=by
 unfold gY
 rw[if_neg (by omega)]
 have h1:=Int.emod_nonneg p (show (n:Int)≠0 by omega)
 have h2:=Int.emod_lt_of_pos p (show (0:Int)<n by omega)
 omega
theorem SK{p:Int}{n:Nat}(h0:0<n)(hn:n≤1000000)(h:p.tmod n<0):IntKind.i64.wrap (p.tmod n+n)=((gY p n:Nat):Int):=by
 have h1:=Int.emod_nonneg p (show (n:Int)≠0 by omega)
 have h2:=Int.emod_lt_of_pos p (show (0:Int)<n by omega)
 have e:= @Int.tmod_eq_emod p n
 unfold gY
 rw[if_neg (by omega),IntKind.wrap_i64]
 split at e <;> omega
theorem SJ{p:Int}{n:Nat}(h0:0<n)(h:¬p.tmod n<0):p.tmod n=((gY p n:Nat):Int):=by
 have h1:=Int.emod_nonneg p (show (n:Int)≠0 by omega)
 have h2:=Int.emod_lt_of_pos p (show (0:Int)<n by omega)
 have e:= @Int.tmod_eq_emod p n
 unfold gY
 rw[if_neg (by omega)]
 split at e <;> omega
theorem QQ{p:Int}{n:Nat}(h:(n:Int)<1):(0:Int)=((gY p n:Nat):Int):=by
 unfold gY
 rw[if_pos (by omega)];rfl
theorem Bf(p d:Int)(n:Nat)(σ:Hp)(hn:n≤1000000):ACalls Tryz.prog 87 [.agg [.int .i64 p,.int .i64 d],.int .i64 n] σ (aB (.int .i64 (gY p n)) σ):=by
 refine okF Tryz.func87 (by kernel_rfl) ?_
 intro aC
 refine an (fun c2 =>?_) (fun c2 =>?_)
 ·have c2:(↑n:Int)<1:=c2
  exact .drop 0 1 (.done ⟨aN (QQ (by assumption)),rfl⟩)
 ·have c2:¬((↑n:Int)<1):=c2
  refine aa.mk 0 _ _ rfl rfl ?_
  refine ah.mk (by omega) ?_
  refine an (fun c3 =>?_) (fun c3 =>?_)
  ·have c3:p.tmod (↑n:Int)<0:=c3
   exact .drop 0 1 (.done ⟨aN (SK (by omega) hn (by assumption)),rfl⟩)
  ·have c3:¬(p.tmod (↑n:Int)<0):=c3
   exact .drop 0 1 (.done ⟨aN (SJ (by omega) (by assumption)),rfl⟩)
def gl(l:List Bool):List AV:=l.map AV.bool
theorem o6{dn:List Bool}{k:Nat}(h:k<dn.length){b:Bool}(hb:dn[k]=b):(gl dn)[0+((k:Int)).toNat*1]?=some (.bool b):=by
 simp[gl,h,hb]
theorem Lk{dn:List Bool}{k:Nat}(h:k<dn.length)(hd:dn[k]=false):dn.all id=false:=by
 cases ha:dn.all id with
 | false=>rfl
 | true =>
  have:=List.all_eq_true.1 ha _ (List.getElem_mem h)
  rw[hd]at this
  cases this
theorem Bk(sv:AV)(u:Int)(b:Nat)(dn:List Bool)(σ:Hp)(hn:dn.length≤1000000):ACalls Tryz.prog 67 [.agg [sv,.ae b 0 dn.length 1,.int .i64 u]] ((b,gl dn)::σ) (aB (.bool (dn.all id)) ((b,gl dn)::σ)):=by
 refine okF Tryz.func67 (by kernel_rfl) ?_
 intro aC
 refine aa.mk 0 _ _ rfl rfl ?_
 refine aU (S:=Nat) (fun s=>[(6,.ae b 0 dn.length 1),(7,.int .i64 dn.length),(8,.int .i64 s)]) (fun _=>(aC,[sv,.ae b 0 dn.length 1,.int .i64 u])::(b,gl dn)::σ) (fun s=>s≤dn.length∧(dn.take s).all id=true) (fun s=>dn.length-s) 0 ⟨⟨Nat.zero_le _,rfl⟩,⟨rfl,rfl,rfl,trivial⟩,rfl⟩ ?_
 rintro k g ⟨hk,bH⟩
 refine an (fun h =>?_) (fun h =>?_)
 ·have h:(k:Int)<dn.length:=h
  have j6:k<dn.length:=by omega
  refine ah.mk ⟨rfl,by omega,by omega⟩ ?_
  cases hd:dn[k] with
  | true =>
   refine aa.mk 1 _ _ rfl (o6 j6 hd) ?_
   refine aH (k+1) ?_ ⟨j6,?_⟩ ⟨rfl,rfl,aI (by omega),trivial⟩ (aF rfl)
   ·show dn.length-(k+1)<dn.length-k;omega
   ·rw[List.take_succ_eq_append_getElem j6,List.all_append,bH,hd];rfl
  | false =>
   refine aa.mk 1 _ _ rfl (o6 j6 hd) ?_
   exact .drop 0 1 (.done ⟨congrArg AV.bool (Lk j6 hd).symm,rfl⟩)
 ·have h:¬(k:Int)<dn.length:=h
  exact .drop 0 1 (.done ⟨congrArg AV.bool (by rw[← List.take_of_length_le (show dn.length≤k by omega)];exact bH.symm),rfl⟩)
def ie(l:List Int):List AV:=l.map (AV.int .i64)
def isNil:AV→Bool
 | .nilif=>true
 | _=>false
theorem S8(n:Nat):bN [.bool false] n=gl (List.replicate n false):=by
 unfold gl
 induction n with
 | zero=>rfl
 | succ n ih=>simp[bN,ih,List.replicate_succ]
theorem S7(n:Nat):bN [.int .i64 0] n=ie (List.replicate n 0):=by
 unfold ie
 induction n with
 | zero=>rfl
 | succ n ih=>simp[bN,ih,List.replicate_succ]
def oM(L:List AV)(k:Nat):List Bool:=(L.take k).map isNil++List.replicate (L.length-k) false
theorem RW(L:List AV):oM L 0=List.replicate L.length false:=by simp[oM]
theorem CG(L:List AV)(k:Nat)(h:k≤L.length):(oM L k).length=L.length:=by simp[oM];omega
theorem Kv(L:List AV):oM L L.length=L.map isNil:=by simp[oM]
theorem Ku(L:List AV)(k:Nat)(h:k<L.length):(oM L k).set k (isNil L[k])=oM L (k+1):=by
 unfold oM
 rw[show L.length-k=(L.length-(k+1))+1 by omega,List.replicate_succ,List.take_succ_eq_append_getElem h,List.map_append]
 have hl:((L.take k).map isNil).length=k:=by simp;omega
 rw[List.set_append_right _ _ (by omega),hl,Nat.sub_self]
 simp
theorem vj{L:List AV}{k:Nat}(h:k<L.length){x:AV}(hx:L[k]=x):L[0+((k:Int)).toNat*1]?=some x:=by
 rw[show 0+((k:Int)).toNat*1=k by omega,List.getElem?_eq_getElem h,hx]
theorem o0{dn:List Bool}{k:Nat}(b:Bool)(h:k<dn.length):ju ⟨.bool,1,1,[.bool false]⟩ (gl dn) (0+((k:Int)).toNat*1) (.bool b)=some (gl (dn.set k b)):=by
 have e:0+((k:Int)).toNat*1=k:=by omega
 have h2:Nat.ble (k+1) (gl dn).length=true:=Nat.ble_eq_true_of_le (by simp[gl];omega)
 rw[e]
 show (match Nat.beq 1 1,Nat.ble (k+1) (gl dn).length with | true,true=>some (er (gl dn) k [.bool b]) | _,_=>none)=_
 rw[h2]
 show some ((gl dn).set k (.bool b))=_
 rw[show (gl dn).set k (.bool b)=gl (dn.set k b) by simp[gl,List.map_set]]
theorem rR{l:List Int}{k:Nat}(h:k<l.length):(ie l)[0+((k:Int)).toNat*1]?=some (.int .i64 (l.getD k 0)):=by
 simp[ie,h,List.getD]
theorem rQ{l:List Int}{k:Nat}(x:Int)(h:k<l.length):ju ⟨.int .i64,1,8,[.int .i64 0]⟩ (ie l) (0+((k:Int)).toNat*1) (.int .i64 x)=some (ie (l.set k x)):=by
 have e:0+((k:Int)).toNat*1=k:=by omega
 have h2:Nat.ble (k+1) (ie l).length=true:=Nat.ble_eq_true_of_le (by simp[ie];omega)
 rw[e]
 show (match Nat.beq 1 1,Nat.ble (k+1) (ie l).length with | true,true=>some (er (ie l) k [.int .i64 x]) | _,_=>none)=_
 rw[h2]
 show some ((ie l).set k (.int .i64 x))=_
 rw[show (ie l).set k (.int .i64 x)=ie (l.set k x) by simp[ie,List.map_set]]
structure j8(A:Type) where
 a:A
 st:List Int
 dn:List Bool
 us:Nat
def ph{A:Type}(step:A→Nat→Int→A×Bool)(tell:A→Nat→A)(n:Nat)(x:j8 A)(p:Int×Int×Unit):j8 A:=
 if x.dn.getD (gY p.1 n) true then ⟨tell x.a (x.us+1),x.st,x.dn,x.us+1⟩
 else ⟨tell (step x.a (gY p.1 n) p.2.1).1 (x.us+1),x.st.set (gY p.1 n) (wr (x.st.getD (gY p.1 n) 0+1)),x.dn.set (gY p.1 n) (step x.a (gY p.1 n) p.2.1).2,x.us+1⟩
def jg{A:Type}(step:A→Nat→Int→A×Bool)(tell:A→Nat→A)(n:Nat):List (Int×Int×Unit)→j8 A→j8 A
 | [],x=>x
 | p::ps,x=>if x.dn.all id then x else jg step tell n ps (ph step tell n x p)
structure AWorld where
 A:Type
 S:Type
 abs:S→A
 B:S→Hp
 L:List AV
 mt:TypeId
 mp:Nat
 step:A→Nat→Int→A×Bool
 tell:A→Nat→A
 free:A→Prop
 keeps:∀a i d,free a→i<L.length→free (step a i d).1
 told:∀a k,free a→free (tell a k)
 mach : ∀ i (h : i < L.length), L[i] = .nilif ∨ ∃ t r, L[i] = .iface t (.ptr r 0) ∧ ∃ g, Meth Tryz.prog t "Step" g ∧
  ∀(s:S) (d:Int) (σ:Hp),free (abs s)→ACalls Tryz.prog g [.ptr r 0,.iface mt (.ptr mp 0),.int .i64 d] (B s++σ) (fun x σ'=>∃s',abs s'=(step (abs s) i d).1∧x=.bool (step (abs s) i d).2∧σ'=B s'++σ)
abbrev AWorld.mv(W:AWorld):AV:=.iface W.mt (.ptr W.mp 0)
def AWorld.init(W:AWorld)(a:W.A):j8 W.A:=⟨a,List.replicate W.L.length 0,W.L.map isNil,0⟩
theorem AWorld.aStep (W : AWorld) (fr : Hp) {s : W.S} {σ : Hp} {K : AV → Hp → Prop} {i r : Nat} {t : TypeId} {g : FuncId} {d : Int} (hMe : Meth Tryz.prog t "Step" g)
  (eQ:∀(s:W.S) (d:Int) (σ:Hp),W.free (W.abs s)→ACalls Tryz.prog g [.ptr r 0,.iface W.mt (.ptr W.mp 0),.int .i64 d] (W.B s++σ) (fun x σ'=>∃s',W.abs s'=(W.step (W.abs s) i d).1∧x=.bool (W.step (W.abs s) i d).2∧σ'=W.B s'++σ))
  (hf : W.free (W.abs s)) (k : ∀ s', W.abs s' = (W.step (W.abs s) i d).1 → K (.bool (W.step (W.abs s) i d).2) (fr ++ (W.B s' ++ σ))) : InvAt Tryz.prog t "Step" fun g => CallAt Tryz.prog g K [.ptr r 0, W.mv, .int .i64 d] (fr ++ (W.B s ++ σ)) := by
 refine⟨g,hMe,.perm _ (oW fr (W.B s) σ) (eQ s d (fr++σ) hf) ?_⟩
 rintro r σ' ⟨s',h3,rfl,rfl⟩
 exact⟨_,(oW fr (W.B s') σ).symm,k s' h3⟩
def AWorld.run(W:AWorld)(aE:List (Int×Int×Unit))(a:W.A):j8 W.A:=jg W.step W.tell W.L.length aE (W.init a)
def Dz(W:AWorld)(aE:List (Int×Int×Unit))(a:W.A)(fr σ:Hp):AV→Hp→Prop:=fun x σ'=>∃s',W.abs s'=(W.run aE a).a∧x=.agg [.af (.int .i64) (W.run aE a).st,.af .bool (W.run aE a).dn,.int .i64 (W.run aE a).us]∧σ'=fr++(W.B s'++σ)
theorem ke{b off len es:Nat}{e:Sh}{l:List e.T}{x1 x2 x3 y1 y2 y3:AV}(h1:dp b off len es e l x1 y1)(h2:dp b off len es e l x2 y2)(h3:dp b off len es e l x3 y3)(l1:y1.leaf=true)(l2:y2.leaf=true)(l3:y3.leaf=true):dp b off len es e l (.agg [x1,x2,x3]) (.agg [y1,y2,y3]):=by
 refine .agg _ _ rfl (fun i y hy =>?_) (fun i x y hx hy =>?_)
 ·match i,hy with
  | 0,hy=>cases hy;exact l1
  | 1,hy=>cases hy;exact l2
  | 2,hy=>cases hy;exact l3
  | i+3,hy=>cases hy
 ·match i,hx,hy with
  | 0,hx,hy=>cases hx;cases hy;exact h1
  | 1,hx,hy=>cases hx;cases hy;exact h2
  | 2,hx,hy=>cases hx;cases hy;exact h3
  | i+3,hx,hy=>cases hx
theorem IZ:∀(ws:List Int),ie ws=ws.flatMap (Sh.cells (.int .i64))
 | []=>rfl
 | z::ws=>congrArg (AV.int .i64 z :: ·) (IZ ws)
theorem JL:∀(ws:List Bool),gl ws=ws.flatMap (Sh.cells .bool)
 | []=>rfl
 | z::ws=>congrArg (AV.bool z :: ·) (JL ws)
theorem rS{l:List Int}{n:Nat}(h:l.length=n):((ie l).drop 0).take (n*1)=l.flatMap (Sh.cells (.int .i64)):=by
 rw[List.drop_zero,← IZ]
 exact List.take_of_length_le (by simp[ie,h])
theorem rU{l:List Bool}{n:Nat}(h:l.length=n):((gl l).drop 0).take (n*1)=l.flatMap (Sh.cells .bool):=by
 rw[List.drop_zero,← JL]
 exact List.take_of_length_le (by simp[gl,h])
def qM(W:AWorld)(aE:List (Int×Int×Unit))(a0:W.A)(x:W.S×List Int×List Bool×Nat):Prop:=
 x.2.2.2≤aE.length∧x.2.1.length=W.L.length∧x.2.2.1.length=W.L.length∧(∀i (h:i<W.L.length),W.L[i]=.nilif→x.2.2.1[i]?=some true)∧W.free (W.abs x.1)∧jg W.step W.tell W.L.length (aE.drop x.2.2.2) ⟨W.abs x.1,x.2.1,x.2.2.1,x.2.2.2⟩=W.run aE a0
theorem TH{A:Type}{step:A→Nat→Int→A×Bool}{tell:A→Nat→A}{n:Nat}(l:List (Int×Int×Unit)){x:j8 A}(h:x.dn.all id=true):jg step tell n l x=x:=by
 cases l with
 | nil=>rfl
 | cons p ps=>rw[jg,if_pos h]
theorem Jz{A:Type}{step:A→Nat→Int→A×Bool}{tell:A→Nat→A}{n:Nat}(p:Int×Int×Unit)(ps:List (Int×Int×Unit)){x:j8 A}(h:x.dn.all id=false):jg step tell n (p::ps) x=jg step tell n ps (ph step tell n x p):=by
 rw[jg,if_neg (by rw[h];decide)]
theorem rT{W:AWorld}{aE:List (Int×Int×Unit)}{a0:W.A}{s:W.S}{st:List Int}{dn:List Bool}{us:Nat}(h:qM W aE a0 (s,st,dn,us))(he:us=aE.length∨dn.all id=true):W.run aE a0=⟨W.abs s,st,dn,us⟩:=by
 obtain⟨_,_,_,_,_,hg⟩:=h
 rw[← hg]
 rcases he with he | he
 ·show jg _ _ _ (aE.drop us) _=_
  rw[he,List.drop_length];rfl
 ·exact TH _ he
theorem Kl{dn:List Bool}{i:Nat}{b d:Bool}(h:i<dn.length)(hd:dn[i]=b):dn.getD i d=b:=by
 rw[List.getD_eq_getElem?_getD,List.getElem?_eq_getElem h,hd];rfl
theorem Ag{W:AWorld}{aE:List (Int×Int×Unit)}{a0:W.A}{s:W.S}{st:List Int}{dn:List Bool}{us i:Nat}{pw pd:Int}{pu:Unit}(h:qM W aE a0 (s,st,dn,us))(jz:∀a k,W.tell a k=a)(bH:dn.all id=false)(cO:us<aE.length)(dA:(pw,pd,pu)=aE[us])(hi:i=gY pw W.L.length)(cX:i<dn.length)(hd:dn[i]=true):qM W aE a0 (s,st,dn,us+1):=by
 obtain⟨h1,h2,h3,h4,h5,hg⟩:=h
 refine⟨cO,h2,h3,h4,h5,?_⟩
 rw[← hg]
 show jg _ _ _ (aE.drop (us+1)) _=jg _ _ _ (aE.drop us) _
 rw[List.drop_eq_getElem_cons cO,← dA,Jz _ _ bH]
 unfold ph
 dsimp only
 rw[← hi,if_pos (Kl cX hd),jz]
theorem rM{W:AWorld}{aE:List (Int×Int×Unit)}{a0:W.A}{s s':W.S}{st:List Int}{dn:List Bool}{us i:Nat}{pw pd:Int}{pu:Unit}(h:qM W aE a0 (s,st,dn,us))(jz:∀a k,W.tell a k=a)(bH:dn.all id=false)(cO:us<aE.length)(dA:(pw,pd,pu)=aE[us])(hi:i=gY pw W.L.length)(cX:i<W.L.length){Mw:i<dn.length}(hd:dn[i]=false)(cI:W.abs s'=(W.step (W.abs s) i pd).1):
  qM W aE a0 (s',st.set i (wr (st.getD i 0+1)),dn.set i (W.step (W.abs s) i pd).2,us+1):=by
 obtain⟨h1,h2,h3,h4,h5,hg⟩:=h
 refine⟨cO,(List.length_set ..).trans h2,(List.length_set ..).trans h3,?_,?_,?_⟩
 ·intro k hk hm
  have:=h4 k hk hm
  show (dn.set i _)[k]?=some true
  rw[List.getElem?_set]
  split
  ·rename_i he
   subst he
   rw[List.getElem?_eq_getElem Mw,hd]at this
   cases this
  ·exact this
 ·show W.free (W.abs s')
  rw[cI];exact W.keeps _ _ _ h5 cX
 ·rw[← hg]
  show jg _ _ _ (aE.drop (us+1)) _=jg _ _ _ (aE.drop us) _
  rw[List.drop_eq_getElem_cons cO,← dA,Jz _ _ bH]
  unfold ph
  dsimp only
  rw[← hi,if_neg (by rw[Kl Mw hd];decide),jz,← cI]
theorem WL(W:AWorld)(lb:Nat)(aE:List (Int×Int×Unit))(s0:W.S)(σ:Hp)(hn:W.L.length≤100000)(hs:aE.length≤100000)(hf:W.free (W.abs s0))(jz:∀a k,W.tell a k=a):
  ACalls Tryz.prog 172 [W.mv,.ae lb 0 W.L.length 1,.af (.field (.int .i64) (.field (.int .i64) .nil)) aE,.ay] ((lb,W.L)::(W.B s0++σ)) (Dz W aE (W.abs s0) [(lb,W.L)] σ):=by
 obtain⟨a0,eA⟩:∃a0,a0=W.abs s0:=⟨_,rfl⟩
 rw[← eA]
 obtain⟨z,mF⟩:∃z,z=s0:=⟨_,rfl⟩
 subst mF
 refine okF Tryz.func172 (by kernel_rfl) ?_
 intro aC
 refine .meet (S:=Nat×Nat×Nat) (fun s=>[(0,W.mv),(1,.ae lb 0 W.L.length 1),(2,.af (.field (.int .i64) (.field (.int .i64) .nil)) aE),(3,.ay),(8,.ptr aC 0),(9,.ptr s.1 0)])
  (fun s=>(s.1,[.ae s.2.1 0 W.L.length 1,.ae s.2.2 0 W.L.length 1,.int .i64 0])::(s.2.1,bN [.int .i64 0] W.L.length)::(s.2.2,bN [.bool false] W.L.length)::(aC,[.aj,.aj,.int .i64 0])::(lb,W.L)::(W.B z++σ)) (by kernel_rfl) ?_ ?_
 ·repeat' first
   | exact bV.mk (_,_,_) ⟨rfl,rfl,rfl,rfl,rfl,rfl,trivial⟩ (aF rfl)
   | exact bV.mk (_,_,_) ⟨rfl,rfl,rfl,rfl,rfl,rfl,trivial⟩ (.pull [2,2,1] (aF rfl))
   | exact bV.mk (_,_,_) ⟨rfl,rfl,rfl,rfl,rfl,rfl,trivial⟩ (.pull [2,1,2] (aF rfl))
   | exact bV.mk (_,_,_) ⟨rfl,rfl,rfl,rfl,rfl,rfl,trivial⟩ (.pull [2,2,0] (aF rfl))
   | exact bV.mk (_,_,_) ⟨rfl,rfl,rfl,rfl,rfl,rfl,trivial⟩ (.pull [2,1,1] (aF rfl))
   | exact bV.mk (_,_,_) ⟨rfl,rfl,rfl,rfl,rfl,rfl,trivial⟩ (.pull [2,1,0] (aF rfl))
   | refine And.intro ?_ ?_
   | refine ah.mk ⟨by omega,by omega,by omega,by decide⟩ ?_
   | refine ai.mk 0 _ _ rfl rfl ?_
   | refine ai.mk 1 _ _ rfl rfl ?_
   | refine ai.mk 2 _ _ rfl rfl ?_
   | intro b
 rintro⟨br,ba,bd⟩ g
 refine az [] (cu _ _ _) ?_
 obtain⟨us,ep⟩:∃us:Nat,us=0:=⟨_,rfl⟩
 obtain⟨st,ar⟩:∃st,st=(List.replicate W.L.length 0:List Int):=⟨_,rfl⟩
 refine aU (S:=Nat) (fun s=>[(0,W.mv),(1,.ae lb 0 W.L.length 1),(2,.af (.field (.int .i64) (.field (.int .i64) .nil)) aE),(3,.ay),(8,.ptr aC 0),(9,.ptr br 0),(23,.ae lb 0 W.L.length 1),(24,.int .i64 W.L.length),(25,.int .i64 s)])
  (fun s=>(br,[.ae ba 0 W.L.length 1,.ae bd 0 W.L.length 1,.int .i64 us])::(ba,ie st)::(bd,gl (oM W.L s))::(aC,[.aj,.aj,.int .i64 0])::(lb,W.L)::(W.B z++σ)) (fun s=>s≤W.L.length) (fun s=>W.L.length-s) 0 ⟨Nat.zero_le _,⟨rfl,rfl,rfl,rfl,rfl,rfl,rfl,rfl,rfl,trivial⟩,by rw[RW,← S8,ar,← S7,ep];rfl⟩ ?_
 intro k g hk
 have hk:k≤W.L.length:=hk
 refine an (fun ab =>?_) (fun aq =>?_)
 ·have ab:(k:Int)<W.L.length:=ab
  have ab:k<W.L.length:=by omega
  refine ah.mk ⟨rfl,by omega,by omega⟩ ?_
  rcases W.mach k ab with hm | ⟨t,r,hm,_⟩
  ·refine aa.mk 4 _ (AV.nilif) rfl (vj ab hm) ?_
   refine .sched [] (upto [] 7 0) (by kernel_rfl) ?_
   refine aa.mk 0 _ _ rfl rfl ?_
   refine ah.mk ⟨rfl,by omega,by omega⟩ ?_
   refine ai.mk 2 _ _ rfl (o0 _ (by rw[CG _ _ hk];omega)) ?_
   refine aH (k+1) ?_ ab ⟨rfl,rfl,rfl,rfl,rfl,rfl,rfl,rfl,aI (by omega),trivial⟩ (aF ?_)
   ·show W.L.length-(k+1)<W.L.length-k;omega
   ·rw[← Ku _ _ ab,hm];rfl
  ·refine aa.mk 4 _ (AV.iface t (.ptr r 0)) rfl (vj ab hm) ?_
   refine .sched [] (upto [] 7 0) (by kernel_rfl) ?_
   refine aa.mk 0 _ _ rfl rfl ?_
   refine ah.mk ⟨rfl,by omega,by omega⟩ ?_
   refine ai.mk 2 _ _ rfl (o0 _ (by rw[CG _ _ hk];omega)) ?_
   refine aH (k+1) ?_ ab ⟨rfl,rfl,rfl,rfl,rfl,rfl,rfl,rfl,aI (by omega),trivial⟩ (aF ?_)
   ·show W.L.length-(k+1)<W.L.length-k;omega
   ·rw[← Ku _ _ ab,hm];rfl
 ·have aq:¬(k:Int)<W.L.length:=aq
  obtain rfl:k=W.L.length:=by omega
  obtain⟨dn,nB⟩:∃dn,dn=oM W.L W.L.length:=⟨_,rfl⟩
  rw[← nB]
  have di:dn.length=W.L.length:=by rw[nB];exact CG _ _ (Nat.le_refl _)
  have cc:st.length=W.L.length:=by rw[ar,List.length_replicate]
  have np:∀i (h:i<W.L.length),W.L[i]=.nilif→dn[i]?=some true:=by
   intro i h hm
   rw[nB,Kv,List.getElem?_map,List.getElem?_eq_getElem h,hm];rfl
  obtain⟨s,cS⟩:∃s,s=z:=⟨_,rfl⟩
  subst cS
  have hI:qM W aE a0 (s,st,dn,us):=by
   exact⟨by show us≤_;omega,cc,di,np,hf,by rw[ep,nB,Kv,ar,eA];rfl⟩
  have ⟨ep,cc,di,np,hf,F7⟩:=hI
  have ep:us≤aE.length:=ep
  have cc:st.length=W.L.length:=cc
  have di:dn.length=W.L.length:=di
  have hF:=fun σ=>Bk (.ae ba 0 W.L.length 1) us bd dn σ (by omega)
  rw[di]at hF
  refine aa.mk 0 _ _ rfl rfl ?_
  refine an (fun c1 =>?_) (fun c1 =>?_)
  ·have c1:(↑us:Int)=(↑aE.length:Int):=c1
   have hE:=rT hI (.inl (by show us=_;omega))
   refine aa.mk 0 _ _ rfl rfl ?_
   refine ai.mk 3 _ _ rfl rfl ?_
   refine aa.mk 3 _ _ rfl rfl ?_
   refine .bO 1 ba 0 W.L.length 1 _ (.int .i64) st rfl (rS cc) ⟨cc,rfl,by decide⟩ (ke .here (.refl _) (.refl _) rfl rfl rfl) ?_
   refine .bO 1 bd 0 W.L.length 1 _ .bool dn rfl (rU di) ⟨di,rfl,by decide⟩ (ke (.refl _) .here (.refl _) rfl rfl rfl) ?_
   exact .drop 0 2 (.done ⟨s,by rw[hE],by rw[hE],rfl⟩)
  ·have c1:¬((↑us:Int)=(↑aE.length:Int)):=c1
   refine aa.mk 0 _ _ rfl rfl ?_
   refine az [2] (hF _) ?_
   cases bH:dn.all id with
   | true =>
    have hE:=rT hI (.inr bH)
    refine aa.mk 1 _ _ rfl rfl ?_
    refine ai.mk 3 _ _ rfl rfl ?_
    refine aa.mk 3 _ _ rfl rfl ?_
    refine .bO 2 ba 0 W.L.length 1 _ (.int .i64) st rfl (rS cc) ⟨cc,rfl,by decide⟩ (ke .here (.refl _) (.refl _) rfl rfl rfl) ?_
    refine .bO 0 bd 0 W.L.length 1 _ .bool dn rfl (rU di) ⟨di,rfl,by decide⟩ (ke (.refl _) .here (.refl _) rfl rfl rfl) ?_
    exact .drop 0 2 (.done ⟨s,by rw[hE],by rw[hE],rfl⟩)
   | false =>
    refine aa.mk 1 _ _ rfl rfl ?_
    refine ah.mk rfl ?_
    have cO:us<aE.length:=by omega
    have jF:AV.int .i64 (IntKind.i64.wrap ((us:Int)+1))=AV.int .i64 ((us+1:Nat):Int):=aI (by omega)
    obtain⟨pk,dA⟩:∃pk,pk=aE[us]:=⟨_,rfl⟩
    obtain⟨pw,pd,pu⟩:=pk
    have dS:0<W.L.length:=by
     rcases Nat.eq_zero_or_pos W.L.length with h0 | h0
     ·rw[List.length_eq_zero_iff.1 (di.trans h0)]at bH;cases bH
     ·exact h0
    refine aT.mk (pw,pd,pu) (by omega) ((get_some cO).trans (congrArg some dA.symm)) ?_
    obtain⟨i,hi⟩:∃i,i=gY pw W.L.length:=⟨_,rfl⟩
    have cX:i<W.L.length:=by rw[hi];exact Am dS
    have oe:=fun σ=>Bf pw pd W.L.length σ (by omega)
    rw[← hi]at oe
    intro bp
    refine ai.mk 0 _ _ rfl rfl ?_
    refine aa.mk 0 _ _ rfl rfl ?_
    refine az [] (oe _) ?_
    refine aa.mk 2 _ _ rfl rfl ?_
    refine ah.mk ⟨rfl,by omega,by omega⟩ ?_
    cases hd:dn[i] with
    | true =>
     refine aa.mk 1 _ _ rfl (o6 (by omega) hd) ?_
     refine aa.mk 2 _ _ rfl rfl ?_
     refine ai.mk 2 _ _ rfl rfl ?_
     refine .loop (S:=W.S×List Int×List Bool×Nat) (fun _=>0) (fun _=>[(0,W.mv),(1,.ae lb 0 W.L.length 1),(2,.af (.field (.int .i64) (.field (.int .i64) .nil)) aE),(3,.ay),(8,.ptr aC 0),(9,.ptr br 0)]) (fun x=>(br,[.ae ba 0 W.L.length 1,.ae bd 0 W.L.length 1,.int .i64 x.2.2.2])::(ba,ie x.2.1)::(bd,gl x.2.2.1)::(aC,[.aj,.aj,.int .i64 0])::(lb,W.L)::(W.B x.1++σ)) (qM W aE a0) (fun x=>aE.length-x.2.2.2) (s,st,dn,us+1) ⟨rfl,(Ag hI jz bH cO dA hi (by omega) hd),⟨rfl,rfl,rfl,rfl,rfl,rfl,trivial⟩,.drop 0 1 (.pull [2,2,0] (aF ?_))⟩ ?_
     ·show _=(br,[AV.ae ba 0 W.L.length 1,AV.ae bd 0 W.L.length 1,AV.int .i64 ((us+1:Nat):Int)])::_
      rw[← jF]
      rfl
     rintro⟨s,st,dn,us⟩ g hI
     have ⟨ep,cc,di,np,hf,F7⟩:=hI
     have ep:us≤aE.length:=ep
     have cc:st.length=W.L.length:=cc
     have di:dn.length=W.L.length:=di
     have hF:=fun σ=>Bk (.ae ba 0 W.L.length 1) us bd dn σ (by omega)
     rw[di]at hF
     refine aa.mk 0 _ _ rfl rfl ?_
     refine an (fun c1 =>?_) (fun c1 =>?_)
     ·have c1:(↑us:Int)=(↑aE.length:Int):=c1
      have hE:=rT hI (.inl (by show us=_;omega))
      refine aa.mk 0 _ _ rfl rfl ?_
      refine ai.mk 3 _ _ rfl rfl ?_
      refine aa.mk 3 _ _ rfl rfl ?_
      refine .bO 1 ba 0 W.L.length 1 _ (.int .i64) st rfl (rS cc) ⟨cc,rfl,by decide⟩ (ke .here (.refl _) (.refl _) rfl rfl rfl) ?_
      refine .bO 1 bd 0 W.L.length 1 _ .bool dn rfl (rU di) ⟨di,rfl,by decide⟩ (ke (.refl _) .here (.refl _) rfl rfl rfl) ?_
      exact .drop 0 2 (.done ⟨s,by rw[hE],by rw[hE],rfl⟩)
     ·have c1:¬((↑us:Int)=(↑aE.length:Int)):=c1
      refine aa.mk 0 _ _ rfl rfl ?_
      refine az [2] (hF _) ?_
      cases bH:dn.all id with
      | true =>
       have hE:=rT hI (.inr bH)
       refine aa.mk 1 _ _ rfl rfl ?_
       refine ai.mk 3 _ _ rfl rfl ?_
       refine aa.mk 3 _ _ rfl rfl ?_
       refine .bO 2 ba 0 W.L.length 1 _ (.int .i64) st rfl (rS cc) ⟨cc,rfl,by decide⟩ (ke .here (.refl _) (.refl _) rfl rfl rfl) ?_
       refine .bO 0 bd 0 W.L.length 1 _ .bool dn rfl (rU di) ⟨di,rfl,by decide⟩ (ke (.refl _) .here (.refl _) rfl rfl rfl) ?_
       exact .drop 0 2 (.done ⟨s,by rw[hE],by rw[hE],rfl⟩)
      | false =>
       refine aa.mk 1 _ _ rfl rfl ?_
       refine ah.mk rfl ?_
       have cO:us<aE.length:=by omega
       have jF:AV.int .i64 (IntKind.i64.wrap ((us:Int)+1))=AV.int .i64 ((us+1:Nat):Int):=aI (by omega)
       obtain⟨pk,dA⟩:∃pk,pk=aE[us]:=⟨_,rfl⟩
       obtain⟨pw,pd,pu⟩:=pk
       have dS:0<W.L.length:=by
        rcases Nat.eq_zero_or_pos W.L.length with h0 | h0
        ·rw[List.length_eq_zero_iff.1 (di.trans h0)]at bH;cases bH
        ·exact h0
       refine aT.mk (pw,pd,pu) (by omega) ((get_some cO).trans (congrArg some dA.symm)) ?_
       obtain⟨i,hi⟩:∃i,i=gY pw W.L.length:=⟨_,rfl⟩
       have cX:i<W.L.length:=by rw[hi];exact Am dS
       have oe:=fun σ=>Bf pw pd W.L.length σ (by omega)
       rw[← hi]at oe
       intro bp
       refine ai.mk 0 _ _ rfl rfl ?_
       refine aa.mk 0 _ _ rfl rfl ?_
       refine az [] (oe _) ?_
       refine aa.mk 2 _ _ rfl rfl ?_
       refine ah.mk ⟨rfl,by omega,by omega⟩ ?_
       cases hd:dn[i] with
       | true =>
        refine aa.mk 1 _ _ rfl (o6 (by omega) hd) ?_
        refine aa.mk 2 _ _ rfl rfl ?_
        refine ai.mk 2 _ _ rfl rfl ?_
        refine .mk (s,st,dn,us+1) rfl (by show aE.length-(us+1)<aE.length-us;omega) (Ag hI jz bH cO dA hi (by omega) hd) ⟨rfl,rfl,rfl,rfl,rfl,rfl,trivial⟩ (.drop 0 1 (.pull [2,2,0] (aF ?_)))
        show _=(br,[AV.ae ba 0 W.L.length 1,AV.ae bd 0 W.L.length 1,AV.int .i64 ((us+1:Nat):Int)])::_
        rw[← jF]
        rfl
       | false =>
        refine aa.mk 1 _ _ rfl (o6 (by omega) hd) ?_
        rcases W.mach i cX with hm | ⟨t,r,hm,gS,hMe,eQ⟩
        ·have:=np i cX hm
         rw[List.getElem?_eq_getElem (by show i<dn.length;omega)]at this
         exact absurd (hd.symm.trans (Option.some.inj this)) (by decide)
        refine .sched [] (.one 0 false (.one 2 false (.one 3 false (.one 4 false (.one 5 false (.one 6 false (.one 7 false (.one 8 false (.one 9 false (.alt 1 (.one 10 false (.one 11 false (.one 12 false .stop))) (.one 10 false (.one 1 false (.one 11 false (.one 12 false .stop)))))))))))))) (by kernel_rfl) ?_
        refine ah.mk ⟨rfl,by omega,by omega⟩ ?_
        refine aa.mk 5 _ (AV.iface t (.ptr r 0)) rfl (vj cX hm) ?_
        refine aa.mk 0 _ _ rfl rfl ?_
        refine And.intro ?_ ?_
        ·refine aa.mk 2 _ _ rfl rfl ?_
         refine W.aStep [_,_,_,_,_,_] hMe eQ hf fun s' cI =>?_
         refine ah.mk ⟨rfl,by omega,by omega⟩ ?_
         refine ai.mk 1 _ _ rfl (o0 _ (by omega)) ?_
         refine aa.mk 2 _ _ rfl rfl ?_
         refine ah.mk ⟨rfl,by omega,by omega⟩ ?_
         refine aa.mk 3 _ _ rfl (rR (by omega)) ?_
         refine ah.mk ⟨rfl,by omega,by omega⟩ ?_
         refine ai.mk 3 _ _ rfl (rQ _ (by omega)) ?_
         refine aa.mk 2 _ _ rfl rfl ?_
         refine ai.mk 2 _ _ rfl rfl ?_
         refine .mk (s',(st.set i (wr (st.getD i 0+1))),(dn.set i (W.step (W.abs s) i pd).2),us+1) rfl (by show aE.length-(us+1)<aE.length-us;omega) (rM hI jz bH cO dA hi cX hd cI) ⟨rfl,rfl,rfl,rfl,rfl,rfl,trivial⟩ (.drop 0 1 (.pull [2,2,0] (aF ?_)))
         show _=(br,[AV.ae ba 0 W.L.length 1,AV.ae bd 0 W.L.length 1,AV.int .i64 ((us+1:Nat):Int)])::_
         rw[← jF]
         rfl
        ·refine W.aStep [_,_,_,_,_,_] hMe eQ hf fun s' cI =>?_
         refine aa.mk 2 _ _ rfl rfl ?_
         refine ah.mk ⟨rfl,by omega,by omega⟩ ?_
         refine ai.mk 1 _ _ rfl (o0 _ (by omega)) ?_
         refine aa.mk 2 _ _ rfl rfl ?_
         refine ah.mk ⟨rfl,by omega,by omega⟩ ?_
         refine aa.mk 3 _ _ rfl (rR (by omega)) ?_
         refine ah.mk ⟨rfl,by omega,by omega⟩ ?_
         refine ai.mk 3 _ _ rfl (rQ _ (by omega)) ?_
         refine aa.mk 2 _ _ rfl rfl ?_
         refine ai.mk 2 _ _ rfl rfl ?_
         refine .mk (s',(st.set i (wr (st.getD i 0+1))),(dn.set i (W.step (W.abs s) i pd).2),us+1) rfl (by show aE.length-(us+1)<aE.length-us;omega) (rM hI jz bH cO dA hi cX hd cI) ⟨rfl,rfl,rfl,rfl,rfl,rfl,trivial⟩ (.drop 0 1 (.pull [2,2,0] (aF ?_)))
         show _=(br,[AV.ae ba 0 W.L.length 1,AV.ae bd 0 W.L.length 1,AV.int .i64 ((us+1:Nat):Int)])::_
         rw[← jF]
         rfl
    | false =>
     refine aa.mk 1 _ _ rfl (o6 (by omega) hd) ?_
     rcases W.mach i cX with hm | ⟨t,r,hm,gS,hMe,eQ⟩
     ·have:=np i cX hm
      rw[List.getElem?_eq_getElem (by show i<dn.length;omega)]at this
      exact absurd (hd.symm.trans (Option.some.inj this)) (by decide)
     refine .sched [] (.one 0 false (.one 2 false (.one 3 false (.one 4 false (.one 5 false (.one 6 false (.one 7 false (.one 8 false (.one 9 false (.alt 1 (.one 10 false (.one 11 false (.one 12 false .stop))) (.one 10 false (.one 1 false (.one 11 false (.one 12 false .stop)))))))))))))) (by kernel_rfl) ?_
     refine ah.mk ⟨rfl,by omega,by omega⟩ ?_
     refine aa.mk 5 _ (AV.iface t (.ptr r 0)) rfl (vj cX hm) ?_
     refine aa.mk 0 _ _ rfl rfl ?_
     refine And.intro ?_ ?_
     ·refine aa.mk 2 _ _ rfl rfl ?_
      refine W.aStep [_,_,_,_,_,_] hMe eQ hf fun s' cI =>?_
      refine ah.mk ⟨rfl,by omega,by omega⟩ ?_
      refine ai.mk 1 _ _ rfl (o0 _ (by omega)) ?_
      refine aa.mk 2 _ _ rfl rfl ?_
      refine ah.mk ⟨rfl,by omega,by omega⟩ ?_
      refine aa.mk 3 _ _ rfl (rR (by omega)) ?_
      refine ah.mk ⟨rfl,by omega,by omega⟩ ?_
      refine ai.mk 3 _ _ rfl (rQ _ (by omega)) ?_
      refine aa.mk 2 _ _ rfl rfl ?_
      refine ai.mk 2 _ _ rfl rfl ?_
      refine .loop (S:=W.S×List Int×List Bool×Nat) (fun _=>0) (fun _=>[(0,W.mv),(1,.ae lb 0 W.L.length 1),(2,.af (.field (.int .i64) (.field (.int .i64) .nil)) aE),(3,.ay),(8,.ptr aC 0),(9,.ptr br 0)]) (fun x=>(br,[.ae ba 0 W.L.length 1,.ae bd 0 W.L.length 1,.int .i64 x.2.2.2])::(ba,ie x.2.1)::(bd,gl x.2.2.1)::(aC,[.aj,.aj,.int .i64 0])::(lb,W.L)::(W.B x.1++σ)) (qM W aE a0) (fun x=>aE.length-x.2.2.2) (s',(st.set i (wr (st.getD i 0+1))),(dn.set i (W.step (W.abs s) i pd).2),us+1) ⟨rfl,(rM hI jz bH cO dA hi cX hd cI),⟨rfl,rfl,rfl,rfl,rfl,rfl,trivial⟩,.drop 0 1 (.pull [2,2,0] (aF ?_))⟩ ?_
      ·show _=(br,[AV.ae ba 0 W.L.length 1,AV.ae bd 0 W.L.length 1,AV.int .i64 ((us+1:Nat):Int)])::_
       rw[← jF]
       rfl
      rintro⟨s,st,dn,us⟩ g hI
      have ⟨ep,cc,di,np,hf,F7⟩:=hI
      have ep:us≤aE.length:=ep
      have cc:st.length=W.L.length:=cc
      have di:dn.length=W.L.length:=di
      have hF:=fun σ=>Bk (.ae ba 0 W.L.length 1) us bd dn σ (by omega)
      rw[di]at hF
      refine aa.mk 0 _ _ rfl rfl ?_
      refine an (fun c1 =>?_) (fun c1 =>?_)
      ·have c1:(↑us:Int)=(↑aE.length:Int):=c1
       have hE:=rT hI (.inl (by show us=_;omega))
       refine aa.mk 0 _ _ rfl rfl ?_
       refine ai.mk 3 _ _ rfl rfl ?_
       refine aa.mk 3 _ _ rfl rfl ?_
       refine .bO 1 ba 0 W.L.length 1 _ (.int .i64) st rfl (rS cc) ⟨cc,rfl,by decide⟩ (ke .here (.refl _) (.refl _) rfl rfl rfl) ?_
       refine .bO 1 bd 0 W.L.length 1 _ .bool dn rfl (rU di) ⟨di,rfl,by decide⟩ (ke (.refl _) .here (.refl _) rfl rfl rfl) ?_
       exact .drop 0 2 (.done ⟨s,by rw[hE],by rw[hE],rfl⟩)
      ·have c1:¬((↑us:Int)=(↑aE.length:Int)):=c1
       refine aa.mk 0 _ _ rfl rfl ?_
       refine az [2] (hF _) ?_
       cases bH:dn.all id with
       | true =>
        have hE:=rT hI (.inr bH)
        refine aa.mk 1 _ _ rfl rfl ?_
        refine ai.mk 3 _ _ rfl rfl ?_
        refine aa.mk 3 _ _ rfl rfl ?_
        refine .bO 2 ba 0 W.L.length 1 _ (.int .i64) st rfl (rS cc) ⟨cc,rfl,by decide⟩ (ke .here (.refl _) (.refl _) rfl rfl rfl) ?_
        refine .bO 0 bd 0 W.L.length 1 _ .bool dn rfl (rU di) ⟨di,rfl,by decide⟩ (ke (.refl _) .here (.refl _) rfl rfl rfl) ?_
        exact .drop 0 2 (.done ⟨s,by rw[hE],by rw[hE],rfl⟩)
       | false =>
        refine aa.mk 1 _ _ rfl rfl ?_
        refine ah.mk rfl ?_
        have cO:us<aE.length:=by omega
        have jF:AV.int .i64 (IntKind.i64.wrap ((us:Int)+1))=AV.int .i64 ((us+1:Nat):Int):=aI (by omega)
        obtain⟨pk,dA⟩:∃pk,pk=aE[us]:=⟨_,rfl⟩
        obtain⟨pw,pd,pu⟩:=pk
        have dS:0<W.L.length:=by
         rcases Nat.eq_zero_or_pos W.L.length with h0 | h0
         ·rw[List.length_eq_zero_iff.1 (di.trans h0)]at bH;cases bH
         ·exact h0
        refine aT.mk (pw,pd,pu) (by omega) ((get_some cO).trans (congrArg some dA.symm)) ?_
        obtain⟨i,hi⟩:∃i,i=gY pw W.L.length:=⟨_,rfl⟩
        have cX:i<W.L.length:=by rw[hi];exact Am dS
        have oe:=fun σ=>Bf pw pd W.L.length σ (by omega)
        rw[← hi]at oe
        intro bp
        refine ai.mk 0 _ _ rfl rfl ?_
        refine aa.mk 0 _ _ rfl rfl ?_
        refine az [] (oe _) ?_
        refine aa.mk 2 _ _ rfl rfl ?_
        refine ah.mk ⟨rfl,by omega,by omega⟩ ?_
        cases hd:dn[i] with
        | true =>
         refine aa.mk 1 _ _ rfl (o6 (by omega) hd) ?_
         refine aa.mk 2 _ _ rfl rfl ?_
         refine ai.mk 2 _ _ rfl rfl ?_
         refine .mk (s,st,dn,us+1) rfl (by show aE.length-(us+1)<aE.length-us;omega) (Ag hI jz bH cO dA hi (by omega) hd) ⟨rfl,rfl,rfl,rfl,rfl,rfl,trivial⟩ (.drop 0 1 (.pull [2,2,0] (aF ?_)))
         show _=(br,[AV.ae ba 0 W.L.length 1,AV.ae bd 0 W.L.length 1,AV.int .i64 ((us+1:Nat):Int)])::_
         rw[← jF]
         rfl
        | false =>
         refine aa.mk 1 _ _ rfl (o6 (by omega) hd) ?_
         rcases W.mach i cX with hm | ⟨t,r,hm,gS,hMe,eQ⟩
         ·have:=np i cX hm
          rw[List.getElem?_eq_getElem (by show i<dn.length;omega)]at this
          exact absurd (hd.symm.trans (Option.some.inj this)) (by decide)
         refine .sched [] (.one 0 false (.one 2 false (.one 3 false (.one 4 false (.one 5 false (.one 6 false (.one 7 false (.one 8 false (.one 9 false (.alt 1 (.one 10 false (.one 11 false (.one 12 false .stop))) (.one 10 false (.one 1 false (.one 11 false (.one 12 false .stop)))))))))))))) (by kernel_rfl) ?_
         refine ah.mk ⟨rfl,by omega,by omega⟩ ?_
         refine aa.mk 5 _ (AV.iface t (.ptr r 0)) rfl (vj cX hm) ?_
         refine aa.mk 0 _ _ rfl rfl ?_
         refine And.intro ?_ ?_
         ·refine aa.mk 2 _ _ rfl rfl ?_
          refine W.aStep [_,_,_,_,_,_] hMe eQ hf fun s' cI =>?_
          refine ah.mk ⟨rfl,by omega,by omega⟩ ?_
          refine ai.mk 1 _ _ rfl (o0 _ (by omega)) ?_
          refine aa.mk 2 _ _ rfl rfl ?_
          refine ah.mk ⟨rfl,by omega,by omega⟩ ?_
          refine aa.mk 3 _ _ rfl (rR (by omega)) ?_
          refine ah.mk ⟨rfl,by omega,by omega⟩ ?_
          refine ai.mk 3 _ _ rfl (rQ _ (by omega)) ?_
          refine aa.mk 2 _ _ rfl rfl ?_
          refine ai.mk 2 _ _ rfl rfl ?_
          refine .mk (s',(st.set i (wr (st.getD i 0+1))),(dn.set i (W.step (W.abs s) i pd).2),us+1) rfl (by show aE.length-(us+1)<aE.length-us;omega) (rM hI jz bH cO dA hi cX hd cI) ⟨rfl,rfl,rfl,rfl,rfl,rfl,trivial⟩ (.drop 0 1 (.pull [2,2,0] (aF ?_)))
          show _=(br,[AV.ae ba 0 W.L.length 1,AV.ae bd 0 W.L.length 1,AV.int .i64 ((us+1:Nat):Int)])::_
          rw[← jF]
          rfl
         ·refine W.aStep [_,_,_,_,_,_] hMe eQ hf fun s' cI =>?_
          refine aa.mk 2 _ _ rfl rfl ?_
          refine ah.mk ⟨rfl,by omega,by omega⟩ ?_
          refine ai.mk 1 _ _ rfl (o0 _ (by omega)) ?_
          refine aa.mk 2 _ _ rfl rfl ?_
          refine ah.mk ⟨rfl,by omega,by omega⟩ ?_
          refine aa.mk 3 _ _ rfl (rR (by omega)) ?_
          refine ah.mk ⟨rfl,by omega,by omega⟩ ?_
          refine ai.mk 3 _ _ rfl (rQ _ (by omega)) ?_
          refine aa.mk 2 _ _ rfl rfl ?_
          refine ai.mk 2 _ _ rfl rfl ?_
          refine .mk (s',(st.set i (wr (st.getD i 0+1))),(dn.set i (W.step (W.abs s) i pd).2),us+1) rfl (by show aE.length-(us+1)<aE.length-us;omega) (rM hI jz bH cO dA hi cX hd cI) ⟨rfl,rfl,rfl,rfl,rfl,rfl,trivial⟩ (.drop 0 1 (.pull [2,2,0] (aF ?_)))
          show _=(br,[AV.ae ba 0 W.L.length 1,AV.ae bd 0 W.L.length 1,AV.int .i64 ((us+1:Nat):Int)])::_
          rw[← jF]
          rfl
     ·refine W.aStep [_,_,_,_,_,_] hMe eQ hf fun s' cI =>?_
      refine aa.mk 2 _ _ rfl rfl ?_
      refine ah.mk ⟨rfl,by omega,by omega⟩ ?_
      refine ai.mk 1 _ _ rfl (o0 _ (by omega)) ?_
      refine aa.mk 2 _ _ rfl rfl ?_
      refine ah.mk ⟨rfl,by omega,by omega⟩ ?_
      refine aa.mk 3 _ _ rfl (rR (by omega)) ?_
      refine ah.mk ⟨rfl,by omega,by omega⟩ ?_
      refine ai.mk 3 _ _ rfl (rQ _ (by omega)) ?_
      refine aa.mk 2 _ _ rfl rfl ?_
      refine ai.mk 2 _ _ rfl rfl ?_
      refine .loop (S:=W.S×List Int×List Bool×Nat) (fun _=>0) (fun _=>[(0,W.mv),(1,.ae lb 0 W.L.length 1),(2,.af (.field (.int .i64) (.field (.int .i64) .nil)) aE),(3,.ay),(8,.ptr aC 0),(9,.ptr br 0)]) (fun x=>(br,[.ae ba 0 W.L.length 1,.ae bd 0 W.L.length 1,.int .i64 x.2.2.2])::(ba,ie x.2.1)::(bd,gl x.2.2.1)::(aC,[.aj,.aj,.int .i64 0])::(lb,W.L)::(W.B x.1++σ)) (qM W aE a0) (fun x=>aE.length-x.2.2.2) (s',(st.set i (wr (st.getD i 0+1))),(dn.set i (W.step (W.abs s) i pd).2),us+1) ⟨rfl,(rM hI jz bH cO dA hi cX hd cI),⟨rfl,rfl,rfl,rfl,rfl,rfl,trivial⟩,.drop 0 1 (.pull [2,2,0] (aF ?_))⟩ ?_
      ·show _=(br,[AV.ae ba 0 W.L.length 1,AV.ae bd 0 W.L.length 1,AV.int .i64 ((us+1:Nat):Int)])::_
       rw[← jF]
       rfl
      rintro⟨s,st,dn,us⟩ g hI
      have ⟨ep,cc,di,np,hf,F7⟩:=hI
      have ep:us≤aE.length:=ep
      have cc:st.length=W.L.length:=cc
      have di:dn.length=W.L.length:=di
      have hF:=fun σ=>Bk (.ae ba 0 W.L.length 1) us bd dn σ (by omega)
      rw[di]at hF
      refine aa.mk 0 _ _ rfl rfl ?_
      refine an (fun c1 =>?_) (fun c1 =>?_)
      ·have c1:(↑us:Int)=(↑aE.length:Int):=c1
       have hE:=rT hI (.inl (by show us=_;omega))
       refine aa.mk 0 _ _ rfl rfl ?_
       refine ai.mk 3 _ _ rfl rfl ?_
       refine aa.mk 3 _ _ rfl rfl ?_
       refine .bO 1 ba 0 W.L.length 1 _ (.int .i64) st rfl (rS cc) ⟨cc,rfl,by decide⟩ (ke .here (.refl _) (.refl _) rfl rfl rfl) ?_
       refine .bO 1 bd 0 W.L.length 1 _ .bool dn rfl (rU di) ⟨di,rfl,by decide⟩ (ke (.refl _) .here (.refl _) rfl rfl rfl) ?_
       exact .drop 0 2 (.done ⟨s,by rw[hE],by rw[hE],rfl⟩)
      ·have c1:¬((↑us:Int)=(↑aE.length:Int)):=c1
       refine aa.mk 0 _ _ rfl rfl ?_
       refine az [2] (hF _) ?_
       cases bH:dn.all id with
       | true =>
        have hE:=rT hI (.inr bH)
        refine aa.mk 1 _ _ rfl rfl ?_
        refine ai.mk 3 _ _ rfl rfl ?_
        refine aa.mk 3 _ _ rfl rfl ?_
        refine .bO 2 ba 0 W.L.length 1 _ (.int .i64) st rfl (rS cc) ⟨cc,rfl,by decide⟩ (ke .here (.refl _) (.refl _) rfl rfl rfl) ?_
        refine .bO 0 bd 0 W.L.length 1 _ .bool dn rfl (rU di) ⟨di,rfl,by decide⟩ (ke (.refl _) .here (.refl _) rfl rfl rfl) ?_
        exact .drop 0 2 (.done ⟨s,by rw[hE],by rw[hE],rfl⟩)
       | false =>
        refine aa.mk 1 _ _ rfl rfl ?_
        refine ah.mk rfl ?_
        have cO:us<aE.length:=by omega
        have jF:AV.int .i64 (IntKind.i64.wrap ((us:Int)+1))=AV.int .i64 ((us+1:Nat):Int):=aI (by omega)
        obtain⟨pk,dA⟩:∃pk,pk=aE[us]:=⟨_,rfl⟩
        obtain⟨pw,pd,pu⟩:=pk
        have dS:0<W.L.length:=by
         rcases Nat.eq_zero_or_pos W.L.length with h0 | h0
         ·rw[List.length_eq_zero_iff.1 (di.trans h0)]at bH;cases bH
         ·exact h0
        refine aT.mk (pw,pd,pu) (by omega) ((get_some cO).trans (congrArg some dA.symm)) ?_
        obtain⟨i,hi⟩:∃i,i=gY pw W.L.length:=⟨_,rfl⟩
        have cX:i<W.L.length:=by rw[hi];exact Am dS
        have oe:=fun σ=>Bf pw pd W.L.length σ (by omega)
        rw[← hi]at oe
        intro bp
        refine ai.mk 0 _ _ rfl rfl ?_
        refine aa.mk 0 _ _ rfl rfl ?_
        refine az [] (oe _) ?_
        refine aa.mk 2 _ _ rfl rfl ?_
        refine ah.mk ⟨rfl,by omega,by omega⟩ ?_
        cases hd:dn[i] with
        | true =>
         refine aa.mk 1 _ _ rfl (o6 (by omega) hd) ?_
         refine aa.mk 2 _ _ rfl rfl ?_
         refine ai.mk 2 _ _ rfl rfl ?_
         refine .mk (s,st,dn,us+1) rfl (by show aE.length-(us+1)<aE.length-us;omega) (Ag hI jz bH cO dA hi (by omega) hd) ⟨rfl,rfl,rfl,rfl,rfl,rfl,trivial⟩ (.drop 0 1 (.pull [2,2,0] (aF ?_)))
         show _=(br,[AV.ae ba 0 W.L.length 1,AV.ae bd 0 W.L.length 1,AV.int .i64 ((us+1:Nat):Int)])::_
         rw[← jF]
         rfl
        | false =>
         refine aa.mk 1 _ _ rfl (o6 (by omega) hd) ?_
         rcases W.mach i cX with hm | ⟨t,r,hm,gS,hMe,eQ⟩
         ·have:=np i cX hm
          rw[List.getElem?_eq_getElem (by show i<dn.length;omega)]at this
          exact absurd (hd.symm.trans (Option.some.inj this)) (by decide)
         refine .sched [] (.one 0 false (.one 2 false (.one 3 false (.one 4 false (.one 5 false (.one 6 false (.one 7 false (.one 8 false (.one 9 false (.alt 1 (.one 10 false (.one 11 false (.one 12 false .stop))) (.one 10 false (.one 1 false (.one 11 false (.one 12 false .stop)))))))))))))) (by kernel_rfl) ?_
         refine ah.mk ⟨rfl,by omega,by omega⟩ ?_
         refine aa.mk 5 _ (AV.iface t (.ptr r 0)) rfl (vj cX hm) ?_
         refine aa.mk 0 _ _ rfl rfl ?_
         refine And.intro ?_ ?_
         ·refine aa.mk 2 _ _ rfl rfl ?_
          refine W.aStep [_,_,_,_,_,_] hMe eQ hf fun s' cI =>?_
          refine ah.mk ⟨rfl,by omega,by omega⟩ ?_
          refine ai.mk 1 _ _ rfl (o0 _ (by omega)) ?_
          refine aa.mk 2 _ _ rfl rfl ?_
          refine ah.mk ⟨rfl,by omega,by omega⟩ ?_
          refine aa.mk 3 _ _ rfl (rR (by omega)) ?_
          refine ah.mk ⟨rfl,by omega,by omega⟩ ?_
          refine ai.mk 3 _ _ rfl (rQ _ (by omega)) ?_
          refine aa.mk 2 _ _ rfl rfl ?_
          refine ai.mk 2 _ _ rfl rfl ?_
          refine .mk (s',(st.set i (wr (st.getD i 0+1))),(dn.set i (W.step (W.abs s) i pd).2),us+1) rfl (by show aE.length-(us+1)<aE.length-us;omega) (rM hI jz bH cO dA hi cX hd cI) ⟨rfl,rfl,rfl,rfl,rfl,rfl,trivial⟩ (.drop 0 1 (.pull [2,2,0] (aF ?_)))
          show _=(br,[AV.ae ba 0 W.L.length 1,AV.ae bd 0 W.L.length 1,AV.int .i64 ((us+1:Nat):Int)])::_
          rw[← jF]
          rfl
         ·refine W.aStep [_,_,_,_,_,_] hMe eQ hf fun s' cI =>?_
          refine aa.mk 2 _ _ rfl rfl ?_
          refine ah.mk ⟨rfl,by omega,by omega⟩ ?_
          refine ai.mk 1 _ _ rfl (o0 _ (by omega)) ?_
          refine aa.mk 2 _ _ rfl rfl ?_
          refine ah.mk ⟨rfl,by omega,by omega⟩ ?_
          refine aa.mk 3 _ _ rfl (rR (by omega)) ?_
          refine ah.mk ⟨rfl,by omega,by omega⟩ ?_
          refine ai.mk 3 _ _ rfl (rQ _ (by omega)) ?_
          refine aa.mk 2 _ _ rfl rfl ?_
          refine ai.mk 2 _ _ rfl rfl ?_
          refine .mk (s',(st.set i (wr (st.getD i 0+1))),(dn.set i (W.step (W.abs s) i pd).2),us+1) rfl (by show aE.length-(us+1)<aE.length-us;omega) (rM hI jz bH cO dA hi cX hd cI) ⟨rfl,rfl,rfl,rfl,rfl,rfl,trivial⟩ (.drop 0 1 (.pull [2,2,0] (aF ?_)))
          show _=(br,[AV.ae ba 0 W.L.length 1,AV.ae bd 0 W.L.length 1,AV.int .i64 ((us+1:Nat):Int)])::_
          rw[← jF]
          rfl
end Go.Proofs.YtnpidbjdilnhlaaGreat
