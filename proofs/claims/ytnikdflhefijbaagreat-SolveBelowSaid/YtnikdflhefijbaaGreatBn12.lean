import Derived.Test.YtnikdflhefijbaaGreatBn11
namespace Go.Proofs.YtnikdflhefijbaaGreat
open Go.RowKit
def wW(ws:List Int)(a:Int):Bool:=decide (0≤a)&&decide (a<ws.length)
def dx(ws:List Int)(a:Int):Int:=if a<0 then 0 else ws.getD a.toNat 0
def gX(ws:List Int)(a x:Int):List Int:=if a<0 then ws else ws.set a.toNat x
def re(n:Int):Nat:=(min (max n 0) 1048576).toNat
theorem acD(n:Int):re n≤1048576:=by unfold re;omega
theorem BU{ws:List Int}{a:Int}(h:0≤a)(h1:a<ws.length):wW ws a=true:=by simp[wW,h,h1]
theorem F7(a n:Int)(h:0≤a)(h1:a<n):(decide (0≤a)&&decide (a<n))=true:=by simp[h,h1]
theorem FH(a n:Int)(h:¬(0≤a∧a<n)):(decide (0≤a)&&decide (a<n))=false:=by simp;omega
theorem nJ{ws:List Int}{a:Nat}:dx ws (a:Int)=ws.getD a 0:=by
 unfold dx;rw[ah (by omega)];rfl
theorem YP{ws:List Int}{a:Int}(h:¬(0≤a∧a<(ws.length:Int))):dx ws a=0:=by
 unfold dx
 split
 ·rfl
 ·rw[List.getD,tY (by omega)];rfl
theorem lh{ws:List Int}{a:Nat}(x:Int):gX ws (a:Int) x=ws.set a x:=by
 unfold gX;rw[ah (by omega)];rfl
theorem Xk{ws:List Int}{a x:Int}(h:¬(0≤a∧a<(ws.length:Int))):gX ws a x=ws:=by
 unfold gX
 split
 ·rfl
 ·exact List.set_eq_of_length_le (by omega)
theorem zq(ws:List Int)(a x:Int):(gX ws a x).length=ws.length:=by unfold gX;split <;> simp
def nk(ws:List Int)(a old:Int):Bool:=wW ws a&&(dx ws a == old)
def iM(ws:List Int)(a old to:Int):List Int:=if nk ws a old then gX ws a to else ws
theorem vQ(ws:List Int)(a o t:Int):(iM ws a o t).length=ws.length:=by unfold iM;split <;> simp[zq]
def Dq(ws:List Int)(a d:Int):Int:=if wW ws a then (dx ws a+d) % 18446744073709551616 else 0
def mT(ws:List Int)(a d:Int):List Int:=if wW ws a then gX ws a ((dx ws a+d) % 18446744073709551616) else ws
theorem OU(ws:List Int)(a d:Int):(mT ws a d).length=ws.length:=by unfold mT;split <;> simp[zq]
def tC(q n:Nat):List AV:=[.int .i64 n,.ae q 0 n 1]
theorem Ge{ws:List Int}{k:Nat}(h:k<ws.length):(aM ws)[0+((k:Int)).toNat*1]?=some (.int .u64 (ws.getD k 0)):=by
 simp[aM,h,List.getD]
theorem abq{ws:List Int}{k:Nat}(x:Int):(aM ws).set k (.int .u64 x)=aM (ws.set k x):=by simp[aM,List.map_set]
theorem KM{ws:List Int}{k:Nat}(x:Int)(h:k<ws.length):kJ ⟨.int .u64,1,8,[.int .u64 0]⟩ (aM ws) (0+((k:Int)).toNat*1) (.int .u64 x)=some (aM (ws.set k x)):=by
 have e:0+((k:Int)).toNat*1=k:=by omega
 have h2:Nat.ble (k+1) (aM ws).length=true:=Nat.ble_eq_true_of_le (by simp[aM];omega)
 rw[e]
 show (match Nat.beq 1 1,Nat.ble (k+1) (aM ws).length with | true,true=>some (fS (aM ws) k [.int .u64 x]) | _,_=>none)=_
 rw[h2]
 show some ((aM ws).set k (.int .u64 x))=_
 rw[abq]
set_option maxRecDepth 100000
theorem H7(n a:Int)(σ:Hp):ACalls Tryz.prog 387 [.agg [.int .i64 n],.int .i64 a] σ (aE (.bool (decide (0≤a)&&decide (a<n))) σ):=by
 refine ay Tryz.func387 ?_
 intro b
 refine an (fun h=>?_) (fun h=>?_)
 ·refine aa 0 ?_
  refine an (fun h2=>?_) (fun h2=>?_)
  ·exact .drop 0 1 (.done ⟨cz (by simp[h,h2]),rfl⟩)
  ·exact .drop 0 1 (.done ⟨cz (by simp[h2]),rfl⟩)
 ·exact .drop 0 1 (.done ⟨cz (by simp[h]),rfl⟩)
theorem VK(n:Int)(σ:Hp):ACalls Tryz.prog 155 [.int .i64 n] σ (aE (.agg [.int .i64 (re n)]) σ):=by
 refine ay Tryz.func155 ?_
 intro b
 refine ak 0 ?_
 refine aa 0 ?_
 refine .drop 0 1 (.done ⟨?_,rfl⟩)
 show AV.agg [.int .i64 (if (1048576:Int)<(if n<0 then 0 else n) then 1048576 else (if n<0 then 0 else n))]=_
 have e:(if (1048576:Int)<(if n<0 then 0 else n) then 1048576 else (if n<0 then 0 else n))=((re n:Nat):Int):=by
  unfold re
  by_cases h:n<0
  ·simp only[ai h];omega
  ·simp only[ah h];split <;> omega
 rw[e]
theorem ago(n:Int)(σ:Hp):ACalls Tryz.prog 90 [.int .i64 n] σ (fun r σ'=>∃p q,r=.ptr p 0∧σ'=(p,tC q (re n))::(q,aM (List.replicate (re n) 0))::σ):=by
 have hc:=acD n
 refine ay Tryz.func90 ?_
 refine az [] (VK n σ) ?_
 refine az [] (VK n σ) ?_
 refine ag.mk ⟨by omega,ke _,by omega,by decide⟩ ?_
 intro q p
 refine .done ⟨p,q,rfl,?_⟩
 show (p,_)::(q,_)::σ=_
 rw[show ((re n:Int)).toNat=re n by omega,show (cE [AV.int .u64 0] (re n))=_ from wD _]
 rfl
theorem aLoad(p q:Nat)(ws:List Int)(a:Int)(σ:Hp):ACalls Tryz.prog 385 [.ptr p 0,.int .i64 a] ((p,tC q ws.length)::(q,aM ws)::σ) (aE (.int .u64 (dx ws a)) ((p,tC q ws.length)::(q,aM ws)::σ)):=by
 refine ay Tryz.func385 ?_
 refine aa 0 ?_
 refine az [] (H7 ws.length a _) ?_
 by_cases hh:0≤a∧a<(ws.length:Int)
 ·rw[F7 a ws.length hh.1 hh.2]
  obtain⟨k,rfl⟩:=mg hh.1
  have hk:k<ws.length:=by omega
  refine aa 0 ?_
  refine ag.mk ⟨rfl,hh.1,hh.2⟩ ?_
  refine aT 1 rfl (Ge hk) ?_
  exact .done ⟨aQ nJ.symm,rfl⟩
 ·rw[FH a ws.length hh]
  exact .done ⟨aQ (YP hh).symm,rfl⟩
abbrev aZ(p q:Nat)(ws:List Int)(σ:Hp):Hp:=(p,tC q ws.length)::(q,aM ws)::σ
theorem aStore(p q:Nat)(ws:List Int)(a x:Int)(σ:Hp):ACalls Tryz.prog 386 [.ptr p 0,.int .i64 a,.int .u64 x] (aZ p q ws σ) (aE (.tup []) (aZ p q (gX ws a x) σ)):=by
 refine ay Tryz.func386 ?_
 refine aa 0 ?_
 refine az [] (H7 ws.length a _) ?_
 by_cases hh:0≤a∧a<(ws.length:Int)
 ·rw[F7 a ws.length hh.1 hh.2]
  obtain⟨k,rfl⟩:=mg hh.1
  have hk:k<ws.length:=by omega
  refine aa 0 ?_
  refine ag.mk ⟨rfl,hh.1,hh.2⟩ ?_
  refine cX 1 rfl (KM x hk) ?_
  refine .done ⟨rfl,?_⟩
  show (p,tC q ws.length)::(q,aM (ws.set k x))::σ=_
  rw[lh];unfold aZ;rw[cM]
 ·rw[FH a ws.length hh]
  refine .done ⟨rfl,?_⟩
  rw[Xk hh];rfl
theorem aCas(p q:Nat)(ws:List Int)(a x y:Int)(σ:Hp):ACalls Tryz.prog 383 [.ptr p 0,.int .i64 a,.int .u64 x,.int .u64 y] (aZ p q ws σ) (aE (.bool (nk ws a x)) (aZ p q (iM ws a x y) σ)):=by
 refine ay Tryz.func383 ?_
 refine aa 0 ?_
 refine az [] (H7 ws.length a _) ?_
 by_cases hh:0≤a∧a<(ws.length:Int)
 ·rw[F7 a ws.length hh.1 hh.2]
  have hH:=BU hh.1 hh.2
  obtain⟨k,rfl⟩:=mg hh.1
  have hk:k<ws.length:=by omega
  refine aa 0 ?_
  refine ag.mk ⟨rfl,hh.1,hh.2⟩ ?_
  refine aT 1 rfl (Ge hk) ?_
  refine dB (fun he=>?_) (fun he=>?_)
  ·have he:¬ws.getD k 0=x:=by simpa using he
   have e1:nk ws k x=false:=by unfold nk;rw[hH,nJ];simpa using he
   refine .done ⟨by rw[e1];rfl,?_⟩
   rw[show iM ws k x y=ws by simp[iM,e1]];rfl
  ·have he:ws.getD k 0=x:=by simpa using he
   have e1:nk ws k x=true:=by unfold nk;rw[hH,nJ,he];simp
   refine aa 0 ?_
   refine ag.mk ⟨rfl,hh.1,hh.2⟩ ?_
   refine cX 1 rfl (KM y hk) ?_
   refine .done ⟨by rw[e1];rfl,?_⟩
   show (p,tC q ws.length)::(q,aM (ws.set k y))::σ=_
   rw[show iM ws k x y=ws.set k y by simp[iM,e1,lh]];unfold aZ;rw[List.length_set]
 ·have hb:=FH a ws.length hh
  rw[hb]
  have e1:nk ws a x=false:=by simp only[nk,wW,hb,IQ]
  refine .done ⟨by rw[e1];rfl,?_⟩
  rw[show iM ws a x y=ws by simp[iM,e1]];rfl
theorem aAdd(p q:Nat)(ws:List Int)(a d:Int)(σ:Hp):ACalls Tryz.prog 382 [.ptr p 0,.int .i64 a,.int .u64 d] (aZ p q ws σ) (aE (.int .u64 (Dq ws a d)) (aZ p q (mT ws a d) σ)):=by
 refine ay Tryz.func382 ?_
 refine aa 0 ?_
 refine az [] (H7 ws.length a _) ?_
 by_cases hh:0≤a∧a<(ws.length:Int)
 ·rw[F7 a ws.length hh.1 hh.2]
  have hH:=BU hh.1 hh.2
  obtain⟨k,rfl⟩:=mg hh.1
  have hk:k<ws.length:=by omega
  have e1:Dq ws k d=IntKind.u64.wrap (ws.getD k 0+d):=by rw[IntKind.wrap_u64];simp only[Dq,hH,if_true,nJ]
  have e2:mT ws k d=ws.set k (IntKind.u64.wrap (ws.getD k 0+d)):=by rw[IntKind.wrap_u64];simp only[mT,hH,if_true,nJ,lh]
  refine aa 0 ?_
  refine ag.mk ⟨rfl,hh.1,hh.2⟩ ?_
  refine aT 1 rfl (Ge hk) ?_
  refine ag.mk ⟨rfl,hh.1,hh.2⟩ ?_
  refine cX 1 rfl (KM _ hk) ?_
  refine aa 0 ?_
  refine ag.mk ⟨rfl,hh.1,hh.2⟩ ?_
  refine aT 1 rfl (Ge (ws:=ws.set k (IntKind.u64.wrap (ws.getD k 0+d))) (by rw[cM];exact hk)) ?_
  refine .done ⟨aQ (by rw[e1];simp[List.getD,hk]),?_⟩
  rw[e2];unfold aZ;rw[cM];rfl
 ·have hb:=FH a ws.length hh
  rw[hb]
  refine .done ⟨aQ (by unfold Dq;unfold wW;rw[hb];rfl),?_⟩
  rw[show mT ws a d=ws by unfold mT wW;rw[hb];rfl];rfl
theorem VG(p q:Nat)(ws:List Int)(σ:Hp):ACalls Tryz.prog 384 [.ptr p 0] (aZ p q ws σ) (aE (.int .i64 ws.length) (aZ p q ws σ)):=by
 refine ay Tryz.func384 ?_
 refine aa 0 ?_
 exact .done ⟨rfl,rfl⟩
theorem mLen_ : Meth Tryz.prog 94 "Len" 384 := fun a w => by kernel_rfl
theorem mLoad_ : Meth Tryz.prog 94 "Load" 385 := fun a w => by kernel_rfl
theorem mStore_ : Meth Tryz.prog 94 "Store" 386 := fun a w => by kernel_rfl
theorem mCAS_ : Meth Tryz.prog 94 "CAS" 383 := fun a w => by kernel_rfl
theorem mAdd_ : Meth Tryz.prog 94 "Add" 382 := fun a w => by kernel_rfl
theorem hStore_ : AheadOk Tryz.prog 94 "Store" := fun a w => by kernel_rfl
theorem hCAS_ : AheadOk Tryz.prog 94 "CAS" := fun a w => by kernel_rfl
theorem hAdd_ : AheadOk Tryz.prog 94 "Add" := fun a w => by kernel_rfl
theorem hLoad_ : AheadOk Tryz.prog 94 "Load" := fun a w => by kernel_rfl
abbrev ku(p:Nat):AV:=.iface 94 (.ptr p 0)
theorem du(t:Nat)(x:AV)(σ:Hp):ACalls Tryz.prog 110 [.iface t x] σ (aE (.iface t x) σ):=by
 refine ay Tryz.func110 ?_
 exact .done ⟨rfl,rfl⟩
structure j6 where
 A:Type
 ld:A→Int→Int×A
 st:A→Int→Int→A
 cs:A→Int→Int→Int→Bool×A
 ad:A→Int→Int→Int×A
 ln:A→Int
 free:A→Prop
abbrev bB:j6 where
 A:=List Int
 ld ws a:=(dx ws a,ws)
 st ws a x:=gX ws a x
 cs ws a x y:=(nk ws a x,iM ws a x y)
 ad ws a d:=(Dq ws a d,mT ws a d)
 ln ws:=ws.length
 free _:=True
structure AMem where
 O:j6
 S:Type
 abs:S→O.A
 B:S→Hp
 t:TypeId
 p:Nat
 load : ∃ g, Meth Tryz.prog t "Load" g ∧ ∀ (s : S) (a : Int) (σ : Hp), O.free (abs s) → ACalls Tryz.prog g [.ptr p 0, .int .i64 a] (B s ++ σ) (fun r σ' => ∃ s', abs s' = (O.ld (abs s) a).2 ∧ r = .int .u64 (O.ld (abs s) a).1 ∧ σ' = B s' ++ σ)
 store : ∃ g, Meth Tryz.prog t "Store" g ∧ ∀ (s : S) (a x : Int) (σ : Hp), O.free (abs s) → ACalls Tryz.prog g [.ptr p 0, .int .i64 a, .int .u64 x] (B s ++ σ) (fun r σ' => ∃ s', abs s' = O.st (abs s) a x ∧ r = .tup [] ∧ σ' = B s' ++ σ)
 cas : ∃ g, Meth Tryz.prog t "CAS" g ∧ ∀ (s : S) (a x y : Int) (σ : Hp), O.free (abs s) → ACalls Tryz.prog g [.ptr p 0, .int .i64 a, .int .u64 x, .int .u64 y] (B s ++ σ) (fun r σ' => ∃ s', abs s' = (O.cs (abs s) a x y).2 ∧ r = .bool (O.cs (abs s) a x y).1 ∧ σ' = B s' ++ σ)
 add : ∃ g, Meth Tryz.prog t "Add" g ∧ ∀ (s : S) (a d : Int) (σ : Hp), O.free (abs s) → ACalls Tryz.prog g [.ptr p 0, .int .i64 a, .int .u64 d] (B s ++ σ) (fun r σ' => ∃ s', abs s' = (O.ad (abs s) a d).2 ∧ r = .int .u64 (O.ad (abs s) a d).1 ∧ σ' = B s' ++ σ)
 hL : AheadOk Tryz.prog t "Load"
 hS : AheadOk Tryz.prog t "Store"
 hC : AheadOk Tryz.prog t "CAS"
 hA : AheadOk Tryz.prog t "Add"
 len : ∃ g, Meth Tryz.prog t "Len" g ∧ ∀ (s : S) (σ : Hp), ACalls Tryz.prog g [.ptr p 0] (B s ++ σ) (fun r σ' => ∃ s', abs s' = abs s ∧ r = .int .i64 (O.ln (abs s)) ∧ σ' = B s' ++ σ)
abbrev AMem.v(M:AMem):AV:=.iface M.t (.ptr M.p 0)
theorem sN(fr b σ:Hp):(b++(fr++σ)).Perm (fr++(b++σ)):=by
 rw[← dM,← dM]
 exact List.Perm.append_right _ Oh
section
variable (M:AMem) (fr:Hp) {s:M.S} {σ:Hp} {K:AV→Hp→Prop}
theorem AMem.aLoad {a : Int} (hf : M.O.free (M.abs s)) (k : ∀ s', M.abs s' = (M.O.ld (M.abs s) a).2 → K (.int .u64 (M.O.ld (M.abs s) a).1) (fr ++ (M.B s' ++ σ))) : InvAt Tryz.prog M.t "Load" fun g => CallAt Tryz.prog g K [.ptr M.p 0, .int .i64 a] (fr ++ (M.B s ++ σ)) := by
 obtain⟨g,h1,h2⟩:=M.load
 refine⟨g,h1,.perm _ (sN fr (M.B s) σ) (h2 s a (fr++σ) hf) ?_⟩
 rintro r σ' ⟨s',h3,rfl,rfl⟩
 exact⟨_,(sN fr (M.B s') σ).symm,k s' h3⟩
theorem AMem.aStore {a x : Int} (hf : M.O.free (M.abs s)) (k : ∀ s', M.abs s' = M.O.st (M.abs s) a x → K (.tup []) (fr ++ (M.B s' ++ σ))) : InvAt Tryz.prog M.t "Store" fun g => CallAt Tryz.prog g K [.ptr M.p 0, .int .i64 a, .int .u64 x] (fr ++ (M.B s ++ σ)) := by
 obtain⟨g,h1,h2⟩:=M.store
 refine⟨g,h1,.perm _ (sN fr (M.B s) σ) (h2 s a x (fr++σ) hf) ?_⟩
 rintro r σ' ⟨s',h3,rfl,rfl⟩
 exact⟨_,(sN fr (M.B s') σ).symm,k s' h3⟩
theorem AMem.aCas {a x y : Int} (hf : M.O.free (M.abs s)) (k : ∀ s', M.abs s' = (M.O.cs (M.abs s) a x y).2 → K (.bool (M.O.cs (M.abs s) a x y).1) (fr ++ (M.B s' ++ σ))) : InvAt Tryz.prog M.t "CAS" fun g => CallAt Tryz.prog g K [.ptr M.p 0, .int .i64 a, .int .u64 x, .int .u64 y] (fr ++ (M.B s ++ σ)) := by
 obtain⟨g,h1,h2⟩:=M.cas
 refine⟨g,h1,.perm _ (sN fr (M.B s) σ) (h2 s a x y (fr++σ) hf) ?_⟩
 rintro r σ' ⟨s',h3,rfl,rfl⟩
 exact⟨_,(sN fr (M.B s') σ).symm,k s' h3⟩
theorem AMem.aCasB {a x y : Int} (hf : M.O.free (M.abs s)) (k1 : ∀ s', M.abs s' = (M.O.cs (M.abs s) a x y).2 → (M.O.cs (M.abs s) a x y).1 = true → K (.bool true) (fr ++ (M.B s' ++ σ))) (k2 : ∀ s', M.abs s' = (M.O.cs (M.abs s) a x y).2 → (M.O.cs (M.abs s) a x y).1 = false → K (.bool false) (fr ++ (M.B s' ++ σ))) : InvAt Tryz.prog M.t "CAS" fun g => CallAt Tryz.prog g K [.ptr M.p 0, .int .i64 a, .int .u64 x, .int .u64 y] (fr ++ (M.B s ++ σ)) :=
 M.aCas fr hf fun s' h=>by
  cases hb:(M.O.cs (M.abs s) a x y).1 with
  |true=>exact k1 s' h hb
  |false=>exact k2 s' h hb
theorem AMem.aAdd {a d : Int} (hf : M.O.free (M.abs s)) (k : ∀ s', M.abs s' = (M.O.ad (M.abs s) a d).2 → K (.int .u64 (M.O.ad (M.abs s) a d).1) (fr ++ (M.B s' ++ σ))) : InvAt Tryz.prog M.t "Add" fun g => CallAt Tryz.prog g K [.ptr M.p 0, .int .i64 a, .int .u64 d] (fr ++ (M.B s ++ σ)) := by
 obtain⟨g,h1,h2⟩:=M.add
 refine⟨g,h1,.perm _ (sN fr (M.B s) σ) (h2 s a d (fr++σ) hf) ?_⟩
 rintro r σ' ⟨s',h3,rfl,rfl⟩
 exact⟨_,(sN fr (M.B s') σ).symm,k s' h3⟩
end
def uA(p q:Nat):AMem where
 O:=bB
 S:=List Int
 abs ws:=ws
 B ws:=[(p,tC q ws.length),(q,aM ws)]
 t:=94
 p:=p
 load:=⟨_,mLoad_,fun ws a σ _=>(Go.Proofs.YtnikdflhefijbaaGreat.aLoad p q ws a σ).mono fun _ _ h=>⟨ws,rfl,h.1,h.2⟩⟩
 store:=⟨_,mStore_,fun ws a x σ _=>(Go.Proofs.YtnikdflhefijbaaGreat.aStore p q ws a x σ).mono fun _ _ h=>⟨_,rfl,h.1,h.2⟩⟩
 cas:=⟨_,mCAS_,fun ws a x y σ _=>(Go.Proofs.YtnikdflhefijbaaGreat.aCas p q ws a x y σ).mono fun _ _ h=>⟨_,rfl,h.1,h.2⟩⟩
 add:=⟨_,mAdd_,fun ws a d σ _=>(Go.Proofs.YtnikdflhefijbaaGreat.aAdd p q ws a d σ).mono fun _ _ h=>⟨_,rfl,h.1,h.2⟩⟩
 hL:=hLoad_
 hS:=hStore_
 hC:=hCAS_
 hA:=hAdd_
 len:=⟨_,mLen_,fun ws σ=>(Go.Proofs.YtnikdflhefijbaaGreat.VG p q ws σ).mono fun _ _ h=>⟨ws,rfl,h.1,h.2⟩⟩
abbrev wr(n:Int):Int:=IntKind.i64.wrap n
structure Tk where
 f:Int
 c:Int
 v:Int
 new:Bool
 ended:Bool
 jQ:Bool
def yW(t:Tk):List AV:=[.int .i64 t.f,.int .i64 t.c,.int .i64 t.v,.bool t.new,.bool t.ended,.bool t.jQ]
def kM(O:j6)(t:Tk)(a:O.A):Tk×O.A×Bool:=
 if t.ended then (t,a,true)
 else if t.jQ then ({ t with ended:=true },(O.ad a t.c 1).2,true)
 else if 0≤t.v then
  (if (O.cs a (wr (t.f+t.v)) 0 1).1 then ({ t with jQ:=true,new:=true },(O.cs a (wr (t.f+t.v)) 0 1).2,false) else ({ t with jQ:=true,new:=false,ended:=true },(O.cs a (wr (t.f+t.v)) 0 1).2,true))
 else ({ t with jQ:=true,new:=false,ended:=true },a,true)
def qa(M:AMem)(σ:Hp){X:Type}(B:X→List AV)(r:Nat)(res:X×M.O.A×Bool):AV→Hp→Prop:=
 fun x σ'=>∃m',M.abs m'=res.2.1∧x=.bool res.2.2∧σ'=(r,B res.1)::(M.B m'++σ)
theorem jZ{M:AMem}{σ:Hp}{X:Type}{B:X→List AV}{r:Nat}{res:X×M.O.A×Bool}{x:X}{a:M.O.A}{b:Bool}{m':M.S}(h:res=(x,a,b))(hm:M.abs m'=a):qa M σ B r res (.bool b) ((r,B x)::(M.B m'++σ)):=by
 subst h
 exact⟨m',hm,rfl,rfl⟩
theorem Ht(M:AMem)(r:Nat)(t:Tk)(m:M.S)(d:Int)(σ:Hp)(hf:M.O.free (M.abs m)):ACalls Tryz.prog 408 [.ptr r 0,M.v,.int .i64 d] ((r,yW t)::(M.B m++σ)) (qa M σ yW r (kM M.O t (M.abs m))):=by
 refine ay Tryz.func408 ?_
 refine fu.kv 0 _ _ rfl rfl (fun h0=>?_) (fun h0=>?_)
 ·exact .done (jZ (x:=t) (by simp[kM,h0]) rfl)
 refine az [] (du _ _ _) ?_
 refine fu.kv 0 _ _ rfl rfl (fun h1=>?_) (fun h1=>?_)
 ·refine .each (by kernel_rfl) ?_
  refine aa 0 ?_
  refine eS.mk M.hA ?_
  refine M.aAdd [_] hf fun m' hm=>?_
  refine .fwd 1 ?_
  refine ak 0 ?_
  exact .done (jZ (x:= { t with ended:=true }) (by simp[kM,h0,h1]) hm)
 refine ak 0 ?_
 refine .each (by kernel_rfl) ?_
 by_cases h2:0≤t.v
 ·repeat' first
   |refine And.intro ?_ ?_
   |refine aa 0 ?_
   |refine an (fun _=>?_) (fun h=>absurd h2 h)
   |refine eS.mk M.hC ?_
  all_goals
   refine M.aCasB [_] hf (fun m' hm hb=>?_) (fun m' hm hb=>?_)
   ·refine ak 0 ?_
    refine aa 0 ?_
    exact .done (jZ (x:= { t with jQ:=true,new:=true }) (by simp[kM,h0,h1,h2,hb]) hm)
   ·refine ak 0 ?_
    refine aa 0 ?_
    refine ak 0 ?_
    exact .done (jZ (x:= { t with jQ:=true,new:=false,ended:=true }) (by simp[kM,h0,h1,h2,hb]) hm)
 ·repeat' first
   |refine And.intro ?_ ?_
   |refine aa 0 ?_
   |refine an (fun h=>absurd h h2) (fun _=>?_)
   |refine ak 0 ?_
  all_goals
   exact .done (jZ (x:= { t with jQ:=true,new:=false,ended:=true }) (by simp[kM,h0,h1,h2]) rfl)
structure Ck where
 f:Int
 c:Int
 v:Int
 ended:Bool
def EV(t:Ck):List AV:=[.int .i64 t.f,.int .i64 t.c,.int .i64 t.v,.bool t.ended]
def rP(O:j6)(t:Ck)(a:O.A):Ck×O.A×Bool:=
 if t.ended then (t,a,true) else ({ t with ended:=true },if 0≤t.v then O.st a (wr (t.f+t.v)) 0 else a,true)
theorem Uu(M:AMem)(r:Nat)(t:Ck)(m:M.S)(d:Int)(σ:Hp)(hf:M.O.free (M.abs m)):ACalls Tryz.prog 405 [.ptr r 0,M.v,.int .i64 d] ((r,EV t)::(M.B m++σ)) (qa M σ EV r (rP M.O t (M.abs m))):=by
 refine ay Tryz.func405 ?_
 refine fu.kv 0 _ _ rfl rfl (fun h0=>?_) (fun h0=>?_)
 ·exact .done (jZ (x:=t) (by simp[rP,h0]) rfl)
 refine ak 0 ?_
 refine aa 0 ?_
 refine an (fun h2=>?_) (fun h2=>?_)
 ·have h2:0≤t.v:=h2
  refine .each (by kernel_rfl) ?_
  repeat' first
   |refine And.intro ?_ ?_
   |refine aa 0 ?_
   |refine az [] (du _ _ _) ?_
   |refine eS.mk M.hS ?_
  all_goals
   refine M.aStore [_] hf fun m' hm=>?_
   exact .done (jZ (x:= { t with ended:=true }) (by simp[rP,h0,h2]) hm)
 ·have h2:¬0≤t.v:=h2
  exact .done (jZ (x:= { t with ended:=true }) (by simp[rP,h0,h2]) rfl)
structure Rk where
 f:Int
 c:Int
 left:Int
 ended:Bool
def DS(t:Rk):List AV:=[.int .i64 t.f,.int .i64 t.c,.int .i64 t.left,.bool t.ended]
def sY(O:j6)(t:Rk)(a:O.A):Rk×O.A×Bool:=
 if t.ended then (t,a,true) else ({ t with ended:=true,left:=wr (O.ad a t.c 18446744073709551615).1 },(O.ad a t.c 18446744073709551615).2,true)
theorem To(M:AMem)(r:Nat)(t:Rk)(m:M.S)(d:Int)(σ:Hp)(hf:M.O.free (M.abs m)):ACalls Tryz.prog 410 [.ptr r 0,M.v,.int .i64 d] ((r,DS t)::(M.B m++σ)) (qa M σ DS r (sY M.O t (M.abs m))):=by
 refine ay Tryz.func410 ?_
 refine fu.kv 0 _ _ rfl rfl (fun h0=>?_) (fun h0=>?_)
 ·exact .done (jZ (x:=t) (by simp[sY,h0]) rfl)
 refine ak 0 ?_
 refine .each (by kernel_rfl) ?_
 repeat' first
  |refine And.intro ?_ ?_
  |refine aa 0 ?_
  |refine az [] (du _ _ _) ?_
  |refine eS.mk M.hA ?_
 all_goals
  refine M.aAdd [_] hf fun m' hm=>?_
  refine ak 0 ?_
  exact .done (jZ (x:= { t with ended:=true,left:=wr (M.O.ad (M.abs m) t.c 18446744073709551615).1 }) (by simp[sY,h0]) hm)
structure Qk where
 f:Int
 c:Int
 is:Bool
 ended:Bool
def DU(t:Qk):List AV:=[.int .i64 t.f,.int .i64 t.c,.bool t.is,.bool t.ended]
def rO(O:j6)(t:Qk)(a:O.A):Qk×O.A×Bool:=
 if t.ended then (t,a,true) else ({ t with ended:=true,is:=decide ((O.ld a t.c).1=0) },(O.ld a t.c).2,true)
theorem G5(M:AMem)(r:Nat)(t:Qk)(m:M.S)(d:Int)(σ:Hp)(hf:M.O.free (M.abs m)):ACalls Tryz.prog 404 [.ptr r 0,M.v,.int .i64 d] ((r,DU t)::(M.B m++σ)) (qa M σ DU r (rO M.O t (M.abs m))):=by
 refine ay Tryz.func404 ?_
 refine fu.kv 0 _ _ rfl rfl (fun h0=>?_) (fun h0=>?_)
 ·exact .done (jZ (x:=t) (by simp[rO,h0]) rfl)
 refine ak 0 ?_
 refine .each (by kernel_rfl) ?_
 repeat' first
  |refine And.intro ?_ ?_
  |refine aa 0 ?_
  |refine az [] (du _ _ _) ?_
  |refine eS.mk M.hL ?_
 all_goals
  refine M.aLoad [_] hf fun m' hm=>?_
  refine an (fun h2=>?_) (fun h2=>?_)
  ·have h2:(M.O.ld (M.abs m) t.c).1=0:=h2
   refine ak 0 ?_
   exact .done (jZ (x:= { t with ended:=true,is:=true }) (by simp[rO,h0,h2]) hm)
  ·have h2:¬(M.O.ld (M.abs m) t.c).1=0:=h2
   refine ak 0 ?_
   exact .done (jZ (x:= { t with ended:=true,is:=false }) (by simp[rO,h0,h2]) hm)
theorem ad6(M:AMem)(f c:Int)(m:M.S)(σ:Hp)(hf:M.O.free (M.abs m)):ACalls Tryz.prog 46 [.agg [.int .i64 f,.int .i64 c],M.v] (M.B m++σ) (fun x σ'=>∃m',M.abs m'=(M.O.ld (M.abs m) c).2∧x=.int .i64 (wr (M.O.ld (M.abs m) c).1)∧σ'=M.B m'++σ):=by
 refine ay Tryz.func46 ?_
 intro b
 refine .each (by kernel_rfl) ?_
 repeat' first
  |refine And.intro ?_ ?_
  |refine aa 0 ?_
  |refine az [] (du _ _ _) ?_
 all_goals
  refine M.aLoad [_] hf fun m' hm=>?_
  exact .drop 0 1 (.done ⟨m',hm,rfl,rfl⟩)
theorem ae5(M:AMem)(f c v:Int)(m:M.S)(σ:Hp)(hf:M.O.free (M.abs m)):ACalls Tryz.prog 49 [.agg [.int .i64 f,.int .i64 c],M.v,.int .i64 v] (M.B m++σ) (fun x σ'=>∃m',M.abs m'=(if 0≤v then (M.O.ld (M.abs m) (wr (f+v))).2 else M.abs m)∧x=.bool (decide (0≤v)&&decide ((M.O.ld (M.abs m) (wr (f+v))).1=1))∧σ'=M.B m'++σ):=by
 refine ay Tryz.func49 ?_
 intro b
 refine .each (by kernel_rfl) ?_
 by_cases h:0≤v
 ·repeat' first
   |refine And.intro ?_ ?_
   |refine an (fun _=>?_) (fun h2=>absurd h h2)
   |refine aa 0 ?_
   |refine az [] (du _ _ _) ?_
  all_goals
   refine M.aLoad [_] hf fun m' hm=>?_
   refine an (fun h2=>?_) (fun h2=>?_)
   ·have h2:(M.O.ld (M.abs m) (wr (f+v))).1=1:=h2
    exact .drop 0 1 (.done ⟨m',by rw[if_pos h];exact hm,cz (by simp[h,h2]),rfl⟩)
   ·have h2:¬(M.O.ld (M.abs m) (wr (f+v))).1=1:=h2
    exact .drop 0 1 (.done ⟨m',by rw[if_pos h];exact hm,cz (by simp[h2]),rfl⟩)
 ·repeat' first
   |refine And.intro ?_ ?_
   |refine an (fun h2=>absurd h2 h) (fun _=>?_)
  all_goals
   exact .drop 0 1 (.done ⟨m,by rw[if_neg h],cz (by simp[h]),rfl⟩)
theorem KJ(f c:Int)(p q:Nat)(ws:List Int)(σ:Hp):ACalls Tryz.prog 46 [.agg [.int .i64 f,.int .i64 c],ku p] (aZ p q ws σ) (aE (.int .i64 (wr (dx ws c))) (aZ p q ws σ)):=
 (ad6 (uA p q) f c ws σ trivial).mono fun _ _ ⟨m',h1,h2,h3⟩=>by
  have h1:m'=ws:=h1
  subst h1
  exact⟨h2,h3⟩
theorem acO(f c v:Int)(p q:Nat)(ws:List Int)(σ:Hp):ACalls Tryz.prog 49 [.agg [.int .i64 f,.int .i64 c],ku p,.int .i64 v] (aZ p q ws σ) (aE (.bool (decide (0≤v)&&decide (dx ws (wr (f+v))=1))) (aZ p q ws σ)):=
 (ae5 (uA p q) f c v ws σ trivial).mono fun _ _ ⟨m',h1,h2,h3⟩=>by
  have h1:m'=ws:=by
   refine h1.trans ?_
   show (if 0≤v then ws else ws)=ws
   split <;> rfl
  subst h1
  exact⟨h2,h3⟩
end Go.Proofs.YtnikdflhefijbaaGreat
namespace Go.Proofs.YtnikdflhefijbaaGreat
set_option maxRecDepth 100000 in
theorem TG(xs ys:List Int)(σ:Hp)(h1:xs.length≤1000000):ACalls Tryz.prog 63 [.af (.int .u64) xs,.af (.int .u64) ys] σ (fun r σ'=>r=.bool (decide (xs=ys))∧σ'=σ):=by
 refine ay Tryz.func63 ?_
 refine dB (fun hl=>?_) (fun hl=>?_)
 ·have:xs≠ys:=by rintro rfl;simp at hl
  exact .done ⟨by simp[this];rfl,rfl⟩
 ·have hl:(!decide ((xs.length:Int)=(ys.length:Int)))=false:=hl
  have hlen:xs.length=ys.length:=by simp at hl;omega
  refine bV (S:=Nat) (fun k=>[(0,.af (.int .u64) xs),(1,.af (.int .u64) ys),(12,.int .i64 xs.length),(13,.int .i64 k)]) (fun _=>σ) (fun k=>k≤xs.length∧xs.take k=ys.take k) (fun k=>xs.length-k) 0 ⟨⟨bA _,rfl⟩,⟨rfl,rfl,rfl,rfl,trivial⟩,rfl⟩ ?_
  rintro k g ⟨hk,fB⟩
  refine an (fun ab=>?_) (fun ar=>?_)
  ·have dA:k<xs.length:=by omega
   have tp:k<ys.length:=by omega
   refine gn.quiet (by kernel_rfl) ?_
   refine ag.mk rfl (bG.mk xs[k] (by omega) (get_some dA) ?_)
   refine ag.mk rfl (bG.mk ys[k] (by omega) (get_some tp) ?_)
   refine dB (fun hx=>?_) (fun hx=>?_)
   ·have:xs≠ys:=by rintro rfl;simp at hx
    exact .done ⟨by simp[this];rfl,rfl⟩
   ·have jL:xs[k]=ys[k]:=by simpa using hx
    refine next (k+1) (Nat.sub_lt_sub_left dA (Nat.lt_succ_self k)) ⟨dA,?_⟩ ⟨rfl,rfl,rfl,aX (by omega),trivial⟩ rfl
    rw[fp dA,fp tp,fB,jL]
  ·obtain rfl:k=xs.length:=by omega
   have:xs=ys:=by
    rw[fj]at fB
    rw[fB,hlen,fj]
   exact .done ⟨by simp[this];rfl,rfl⟩
set_option maxRecDepth 100000
theorem PW{α:Type}{f:α→Hp}{l:List α}{j:Nat}(h:j<l.length):(l.flatMap f).Perm (f l[j]++(l.eraseIdx j).flatMap f):=by
 induction l generalizing j with
 |nil=>simp at h
 |cons x l ih=>
  cases j with
  |zero=>exact List.Perm.refl _
  |succ j=>
   rw[zi]
   have:=ih (j:=j) (by simpa using h)
   refine (List.Perm.append_left _ this).trans ?_
   simp only[List.getElem_cons_succ,List.eraseIdx_cons_succ,zi,← dM]
   exact List.Perm.append_right _ Oh
theorem YX{α:Type}{f:α→Hp}{l:List α}{j:Nat}(h:j<l.length)(y:α):((l.set j y).flatMap f).Perm (f y++(l.eraseIdx j).flatMap f):=by
 have:=PW (f:=f) (l:=l.set j y) (j:=j) (by simpa using h)
 rw[List.getElem_set_self,Oe]at this
 exact this
set_option maxHeartbeats 4000000
theorem J7{β:Type}(f:Nat→β)(c:β→AV)(i:Nat):((List.range (i+1)).map f).map c=((List.range i).map f).map c++[c (f i)]:=by
 rw[tV,cS,cS];rfl
theorem MU{e k:Nat}{v:AV}{acc:Hp}{cs cs':List AV}(h:cs=cs')(ha:Acc e k v acc cs'):Acc e k v acc cs:=h▸ha
theorem aeu(g:FuncId)(cap:List AV)(St:List Nat→Hp→Prop)(S0 σ:Hp)(h0:St [] S0)(n:Nat)(hn:n≤100000)(vB:∀(L:List Nat) (S τ:Hp),L.length<n→St L S→ACalls Tryz.prog g (.int .i64 L.length::cap) (S++τ) (fun r σ'=>∃w S',r=.ptr w 0∧σ'=S'++τ∧St (L++[w]) S')):ACalls Tryz.prog 98 [.int .i64 n,.fn (.func g) [] cap] (S0++σ) (fun r σ'=>∃L S' acc,L.length=n∧St L S'∧Acc 1 n r acc (L.map fun w=>.ptr w 0)∧σ'=acc++(S'++σ)):=by
 refine ay Tryz.func98 ?_
 refine .wrap 5 .aj rfl rfl ?_
 refine bV (S:=List Nat×AV×Hp×{S:Hp // True}) (fun t=>[(1,.fn (.func g) [] cap),(5,.via t.2.1),(7,.int .i64 n),(8,.int .i64 t.1.length)]) (fun t=>t.2.2.1++(t.2.2.2.1++σ)) (fun t=>t.1.length≤n∧Acc 1 t.1.length t.2.1 t.2.2.1 (t.1.map (fun w=>AV.ptr w 0))∧St t.1 t.2.2.2.1) (fun t=>n-t.1.length) ([],.aj,[],⟨S0,trivial⟩) ⟨⟨bA _,.nil,h0⟩,⟨rfl,rfl,rfl,rfl,trivial⟩,rfl⟩ ?_
 rintro⟨L,v,acc,⟨S,_⟩⟩ g2 ⟨fC,h0,Eo⟩
 have hi:L.length≤n:=fC
 have h:Acc 1 L.length v acc (L.map (fun w=>AV.ptr w 0)):=h0
 have hS:St L S:=Eo
 clear fC h0 Eo
 refine an (p:=(L.length:Int)<(n:Int)) (fun ab=>?_) (fun ar=>?_)
 rotate_left
 ·have ar:L.length=n:=by omega
  exact .done ⟨L,S,acc,ar,hS,ar▸h,rfl⟩
 have ab:L.length<n:=by omega
 refine .perm (σ2:=S++(acc++σ)) _ (eO acc S σ) (vB L S (acc++σ) ab hS) ?_
 rintro _ _ ⟨w,S',rfl,rfl,A8⟩
 refine⟨_,(eO acc S' σ).symm,?_⟩
 intro b1
 refine jU [_] h (.ae 0 b1 0 1 _ rfl (cH rfl)) rfl (by omega) (by decide) (by decide) (fun v' bu h'=>?_)
 refine a8 (L++[w],v',bu,⟨S',trivial⟩) (by show n-(L++[w]).length<n-L.length;rw[bQ];simp only[sF];omega) ⟨by rw[bQ];exact ab,?_,A8⟩ ⟨rfl,rfl,rfl,?_,trivial⟩ (.drop 0 1 (.refl _))
 ·show Acc 1 (L++[w]).length v' bu ((L++[w]).map (fun w=>AV.ptr w 0))
  rw[bQ,cS]
  exact h'
 ·rw[bQ]
  exact aX (show L.length<1000000000 by omega)
theorem Uq(g:FuncId)(cap:List AV)(St:List Nat→Hp→Prop)(S0 σ:Hp)(h0:St [] S0)(n:Nat)(hn:n≤100000)(vB:∀(L:List Nat) (S τ:Hp),L.length<n→St L S→ACalls Tryz.prog g (.int .i64 L.length::cap) (S++τ) (fun r σ'=>∃w S',r=.iface 168 (.ptr w 0)∧σ'=S'++τ∧St (L++[w]) S')):ACalls Tryz.prog 102 [.int .i64 n,.fn (.func g) [] cap] (S0++σ) (fun r σ'=>∃L S' acc,L.length=n∧St L S'∧Acc 1 n r acc (L.map fun w=>.iface 168 (.ptr w 0))∧σ'=acc++(S'++σ)):=by
 refine ay Tryz.func102 ?_
 refine .wrap 5 .aj rfl rfl ?_
 refine bV (S:=List Nat×AV×Hp×{S:Hp // True}) (fun t=>[(1,.fn (.func g) [] cap),(5,.via t.2.1),(7,.int .i64 n),(8,.int .i64 t.1.length)]) (fun t=>t.2.2.1++(t.2.2.2.1++σ)) (fun t=>t.1.length≤n∧Acc 1 t.1.length t.2.1 t.2.2.1 (t.1.map (fun w=>AV.iface 168 (.ptr w 0)))∧St t.1 t.2.2.2.1) (fun t=>n-t.1.length) ([],.aj,[],⟨S0,trivial⟩) ⟨⟨bA _,.nil,h0⟩,⟨rfl,rfl,rfl,rfl,trivial⟩,rfl⟩ ?_
 rintro⟨L,v,acc,⟨S,_⟩⟩ g2 ⟨fC,h0,Eo⟩
 have hi:L.length≤n:=fC
 have h:Acc 1 L.length v acc (L.map (fun w=>AV.iface 168 (.ptr w 0))):=h0
 have hS:St L S:=Eo
 clear fC h0 Eo
 refine an (p:=(L.length:Int)<(n:Int)) (fun ab=>?_) (fun ar=>?_)
 rotate_left
 ·have ar:L.length=n:=by omega
  exact .done ⟨L,S,acc,ar,hS,ar▸h,rfl⟩
 have ab:L.length<n:=by omega
 refine .perm (σ2:=S++(acc++σ)) _ (eO acc S σ) (vB L S (acc++σ) ab hS) ?_
 rintro _ _ ⟨w,S',rfl,rfl,A8⟩
 refine⟨_,(eO acc S' σ).symm,?_⟩
 intro b1
 refine jU [_] h (.ae 0 b1 0 1 _ rfl (cH rfl)) rfl (by omega) (by decide) (by decide) (fun v' bu h'=>?_)
 refine a8 (L++[w],v',bu,⟨S',trivial⟩) (by show n-(L++[w]).length<n-L.length;rw[bQ];simp only[sF];omega) ⟨by rw[bQ];exact ab,?_,A8⟩ ⟨rfl,rfl,rfl,?_,trivial⟩ (.drop 0 1 (.refl _))
 ·show Acc 1 (L++[w]).length v' bu ((L++[w]).map (fun w=>AV.iface 168 (.ptr w 0)))
  rw[bQ,cS]
  exact h'
 ·rw[bQ]
  exact aX (show L.length<1000000000 by omega)
theorem Ur(g:FuncId)(cap:List AV)(S σ:Hp)(f:Nat→Int)(n:Nat)(hn:n≤100000)(vB:∀i:Nat,i<n→∀τ,ACalls Tryz.prog g (.int .i64 i::cap) (S++τ) (aE (.int .i64 (f i)) (S++τ))):ACalls Tryz.prog 50 [.int .i64 n,.fn (.func g) [] cap] (S++σ) (aE (.af (.int .i64) ((List.range n).map f)) (S++σ)):=by
 refine ay Tryz.func50 ?_
 refine .wrap 5 .aj rfl rfl ?_
 refine bV (S:=Nat×AV×Hp) (fun t=>[(1,.fn (.func g) [] cap),(5,.via t.2.1),(7,.int .i64 n),(8,.int .i64 t.1)]) (fun t=>t.2.2++(S++σ)) (fun t=>t.1≤n∧Acc 1 t.1 t.2.1 t.2.2 (((List.range t.1).map f).map (AV.int .i64))) (fun t=>n-t.1) (0,.aj,[]) ⟨⟨bA _,.nil⟩,⟨rfl,rfl,rfl,rfl,trivial⟩,rfl⟩ ?_
 rintro⟨i,v,acc⟩ g ⟨fC,h0⟩
 have hi:i≤n:=fC
 have h:Acc 1 i v acc (((List.range i).map f).map (AV.int .i64)):=h0
 clear fC h0
 refine an (p:=(i:Int)<(n:Int)) (fun ab=>?_) (fun ar=>?_)
 rotate_left
 ·have ar:i=n:=by omega
  subst ar
  have hlen:((List.range i).map f).length=i:=by rw[cd,oO]
  exact pO [] (s:=(.int .i64)) h hlen.symm (Ob ..) Nat.one_pos (.done ⟨rfl,rfl⟩)
 have ab:i<n:=by omega
 refine .perm (σ2:=S++(acc++σ)) _ (eO acc S σ) (vB i ab (acc++σ)) ?_
 rintro _ _ ⟨rfl,rfl⟩
 refine⟨_,(eO acc S σ).symm,?_⟩
 intro b1
 refine jU [_] h (.ae 0 b1 0 1 _ rfl (cH rfl)) rfl (by omega) (by decide) (by decide) (fun v' bu h'=>?_)
 refine a8 (i+1,v',bu) (by show n-(i+1)<n-i;omega) ⟨ab,?_⟩ ⟨rfl,rfl,rfl,aX (by omega),trivial⟩ (.drop 0 1 (.refl _))
 show Acc 1 (i+1) v' bu (((List.range (i+1)).map f).map (AV.int .i64))
 exact MU (J7 f (AV.int .i64) i) h'
theorem aew(g:FuncId)(cap:List AV)(S σ:Hp)(f:Nat→Bool)(n:Nat)(hn:n≤100000)(vB:∀i:Nat,i<n→∀τ,ACalls Tryz.prog g (.int .i64 i::cap) (S++τ) (aE (.bool (f i)) (S++τ))):ACalls Tryz.prog 47 [.int .i64 n,.fn (.func g) [] cap] (S++σ) (aE (.af .bool ((List.range n).map f)) (S++σ)):=by
 refine ay Tryz.func47 ?_
 refine .wrap 5 .aj rfl rfl ?_
 refine bV (S:=Nat×AV×Hp) (fun t=>[(1,.fn (.func g) [] cap),(5,.via t.2.1),(7,.int .i64 n),(8,.int .i64 t.1)]) (fun t=>t.2.2++(S++σ)) (fun t=>t.1≤n∧Acc 1 t.1 t.2.1 t.2.2 (((List.range t.1).map f).map AV.bool)) (fun t=>n-t.1) (0,.aj,[]) ⟨⟨bA _,.nil⟩,⟨rfl,rfl,rfl,rfl,trivial⟩,rfl⟩ ?_
 rintro⟨i,v,acc⟩ g ⟨fC,h0⟩
 have hi:i≤n:=fC
 have h:Acc 1 i v acc (((List.range i).map f).map AV.bool):=h0
 clear fC h0
 refine an (p:=(i:Int)<(n:Int)) (fun ab=>?_) (fun ar=>?_)
 rotate_left
 ·have ar:i=n:=by omega
  subst ar
  have hlen:((List.range i).map f).length=i:=by rw[cd,oO]
  exact pO [] (s:=.bool) h hlen.symm (Ob ..) Nat.one_pos (.done ⟨rfl,rfl⟩)
 have ab:i<n:=by omega
 refine .perm (σ2:=S++(acc++σ)) _ (eO acc S σ) (vB i ab (acc++σ)) ?_
 rintro _ _ ⟨rfl,rfl⟩
 refine⟨_,(eO acc S σ).symm,?_⟩
 intro b1
 refine jU [_] h (.ae 0 b1 0 1 _ rfl (cH rfl)) rfl (by omega) (by decide) (by decide) (fun v' bu h'=>?_)
 refine a8 (i+1,v',bu) (by show n-(i+1)<n-i;omega) ⟨ab,?_⟩ ⟨rfl,rfl,rfl,aX (by omega),trivial⟩ (.drop 0 1 (.refl _))
 show Acc 1 (i+1) v' bu (((List.range (i+1)).map f).map AV.bool)
 exact MU (J7 f AV.bool i) h'
theorem aev(g:FuncId)(cap:List AV)(S σ:Hp)(f:Nat→List Int)(n:Nat)(hn:n≤100000)(vB:∀i:Nat,i<n→∀τ,ACalls Tryz.prog g (.int .i64 i::cap) (S++τ) (aE (.af (.int .u64) (f i)) (S++τ))):ACalls Tryz.prog 104 [.int .i64 n,.fn (.func g) [] cap] (S++σ) (aE (.af (.slice (.int .u64)) ((List.range n).map f)) (S++σ)):=by
 refine ay Tryz.func104 ?_
 refine .wrap 5 .aj rfl rfl ?_
 refine bV (S:=Nat×AV×Hp) (fun t=>[(1,.fn (.func g) [] cap),(5,.via t.2.1),(7,.int .i64 n),(8,.int .i64 t.1)]) (fun t=>t.2.2++(S++σ)) (fun t=>t.1≤n∧Acc 1 t.1 t.2.1 t.2.2 (((List.range t.1).map f).map (AV.af (.int .u64)))) (fun t=>n-t.1) (0,.aj,[]) ⟨⟨bA _,.nil⟩,⟨rfl,rfl,rfl,rfl,trivial⟩,rfl⟩ ?_
 rintro⟨i,v,acc⟩ g ⟨fC,h0⟩
 have hi:i≤n:=fC
 have h:Acc 1 i v acc (((List.range i).map f).map (AV.af (.int .u64))):=h0
 clear fC h0
 refine an (p:=(i:Int)<(n:Int)) (fun ab=>?_) (fun ar=>?_)
 rotate_left
 ·have ar:i=n:=by omega
  subst ar
  have hlen:((List.range i).map f).length=i:=by rw[cd,oO]
  exact pO [] (s:=(.slice (.int .u64))) h hlen.symm (Ob ..) Nat.one_pos (.done ⟨rfl,rfl⟩)
 have ab:i<n:=by omega
 refine .perm (σ2:=S++(acc++σ)) _ (eO acc S σ) (vB i ab (acc++σ)) ?_
 rintro _ _ ⟨rfl,rfl⟩
 refine⟨_,(eO acc S σ).symm,?_⟩
 intro b1
 refine jU [_] h (.ae 0 b1 0 1 _ rfl (cH rfl)) rfl (by omega) (by decide) (by decide) (fun v' bu h'=>?_)
 refine a8 (i+1,v',bu) (by show n-(i+1)<n-i;omega) ⟨ab,?_⟩ ⟨rfl,rfl,rfl,aX (by omega),trivial⟩ (.drop 0 1 (.refl _))
 show Acc 1 (i+1) v' bu (((List.range (i+1)).map f).map (AV.af (.int .u64)))
 exact MU (J7 f (AV.af (.int .u64)) i) h'
end Go.Proofs.YtnikdflhefijbaaGreat
