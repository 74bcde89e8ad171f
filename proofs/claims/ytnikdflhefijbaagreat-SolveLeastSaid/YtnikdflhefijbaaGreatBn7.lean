import Derived.Test.YtnikdflhefijbaaGreatBn6
namespace Go.Proofs.YtnikdflhefijbaaGreat
open Go.RowKit
def xa(ws:List Int)(a:Int):Bool:=decide (0≤a)&&decide (a<ws.length)
def gJ(ws:List Int)(a:Int):Int:=if a<0 then 0 else ws.getD a.toNat 0
def ig(ws:List Int)(a x:Int):List Int:=if a<0 then ws else ws.set a.toNat x
def rj(n:Int):Nat:=(min (max n 0) 1048576).toNat
theorem acP(n:Int):rj n≤1048576:=by unfold rj;omega
theorem Cb{ws:List Int}{a:Int}(h:0≤a)(h1:a<ws.length):xa ws a=true:=by simp[xa,h,h1]
theorem Gr(a n:Int)(h:0≤a)(h1:a<n):(decide (0≤a)&&decide (a<n))=true:=by simp[h,h1]
theorem F7(a n:Int)(h:¬(0≤a∧a<n)):(decide (0≤a)&&decide (a<n))=false:=by simp;omega
theorem nX{ws:List Int}{a:Nat}:gJ ws (a:Int)=ws.getD a 0:=by
 unfold gJ;rw[ag (by omega)];rfl
theorem YS{ws:List Int}{a:Int}(h:¬(0≤a∧a<(ws.length:Int))):gJ ws a=0:=by
 unfold gJ
 split
 ·rfl
 ·rw[List.getD,tZ (by omega)];rfl
theorem lC{ws:List Int}{a:Nat}(x:Int):ig ws (a:Int) x=ws.set a x:=by
 unfold ig;rw[ag (by omega)];rfl
theorem Xi{ws:List Int}{a x:Int}(h:¬(0≤a∧a<(ws.length:Int))):ig ws a x=ws:=by
 unfold ig
 split
 ·rfl
 ·exact List.set_eq_of_length_le (by omega)
theorem zD(ws:List Int)(a x:Int):(ig ws a x).length=ws.length:=by unfold ig;split <;> simp
def nD(ws:List Int)(a old:Int):Bool:=xa ws a&&(gJ ws a == old)
def jb(ws:List Int)(a old to:Int):List Int:=if nD ws a old then ig ws a to else ws
theorem vX(ws:List Int)(a o t:Int):(jb ws a o t).length=ws.length:=by unfold jb;split <;> simp[zD]
def DF(ws:List Int)(a d:Int):Int:=if xa ws a then (gJ ws a+d) % 18446744073709551616 else 0
def ni(ws:List Int)(a d:Int):List Int:=if xa ws a then ig ws a ((gJ ws a+d) % 18446744073709551616) else ws
theorem OV(ws:List Int)(a d:Int):(ni ws a d).length=ws.length:=by unfold ni;split <;> simp[zD]
def tE(q n:Nat):List AV:=[.int .i64 n,.ae q 0 n 1]
theorem Gx{ws:List Int}{k:Nat}(h:k<ws.length):(aO ws)[0+((k:Int)).toNat*1]?=some (.int .u64 (ws.getD k 0)):=by
 simp[aO,h,List.getD]
theorem abz{ws:List Int}{k:Nat}(x:Int):(aO ws).set k (.int .u64 x)=aO (ws.set k x):=by simp[aO,List.map_set]
theorem KX{ws:List Int}{k:Nat}(x:Int)(h:k<ws.length):kQ ⟨.int .u64,1,8,[.int .u64 0]⟩ (aO ws) (0+((k:Int)).toNat*1) (.int .u64 x)=some (aO (ws.set k x)):=by
 have e:0+((k:Int)).toNat*1=k:=by omega
 have h2:Nat.ble (k+1) (aO ws).length=true:=Nat.ble_eq_true_of_le (by simp[aO];omega)
 rw[e]
 show (match Nat.beq 1 1,Nat.ble (k+1) (aO ws).length with | true,true=>some (ga (aO ws) k [.int .u64 x]) | _,_=>none)=_
 rw[h2]
 show some ((aO ws).set k (.int .u64 x))=_
 rw[abz]
set_option maxRecDepth 100000
theorem Is(n a:Int)(σ:Hp):ACalls Tryz.prog 387 [.agg [.int .i64 n],.int .i64 a] σ (aE (.bool (decide (0≤a)&&decide (a<n))) σ):=by
 refine az Tryz.func387 ?_
 intro b
 refine aq (fun h=>?_) (fun h=>?_)
 ·refine aa 0 ?_
  refine aq (fun h2=>?_) (fun h2=>?_)
  ·exact .drop 0 1 (.done ⟨dc (by simp[h,h2]),rfl⟩)
  ·exact .drop 0 1 (.done ⟨dc (by simp[h2]),rfl⟩)
 ·exact .drop 0 1 (.done ⟨dc (by simp[h]),rfl⟩)
theorem VL(n:Int)(σ:Hp):ACalls Tryz.prog 155 [.int .i64 n] σ (aE (.agg [.int .i64 (rj n)]) σ):=by
 refine az Tryz.func155 ?_
 intro b
 refine ai 0 ?_
 refine aa 0 ?_
 refine .drop 0 1 (.done ⟨?_,rfl⟩)
 show AV.agg [.int .i64 (if (1048576:Int)<(if n<0 then 0 else n) then 1048576 else (if n<0 then 0 else n))]=_
 have e:(if (1048576:Int)<(if n<0 then 0 else n) then 1048576 else (if n<0 then 0 else n))=((rj n:Nat):Int):=by
  unfold rj
  by_cases h:n<0
  ·simp only[ah h];omega
  ·simp only[ag h];split <;> omega
 rw[e]
theorem agA(n:Int)(σ:Hp):ACalls Tryz.prog 90 [.int .i64 n] σ (fun r σ'=>∃p q,r=.ptr p 0∧σ'=(p,tE q (rj n))::(q,aO (List.replicate (rj n) 0))::σ):=by
 have hc:=acP n
 refine az Tryz.func90 ?_
 refine ay [] (VL n σ) ?_
 refine ay [] (VL n σ) ?_
 refine aI.mk ⟨by omega,kq _,by omega,by decide⟩ ?_
 intro q p
 refine .done ⟨p,q,rfl,?_⟩
 show (p,_)::(q,_)::σ=_
 rw[show ((rj n:Int)).toNat=rj n by omega,show (cM [AV.int .u64 0] (rj n))=_ from wL _]
 rfl
theorem aLoad(p q:Nat)(ws:List Int)(a:Int)(σ:Hp):ACalls Tryz.prog 385 [.ptr p 0,.int .i64 a] ((p,tE q ws.length)::(q,aO ws)::σ) (aE (.int .u64 (gJ ws a)) ((p,tE q ws.length)::(q,aO ws)::σ)):=by
 refine az Tryz.func385 ?_
 refine aa 0 ?_
 refine ay [] (Is ws.length a _) ?_
 by_cases hh:0≤a∧a<(ws.length:Int)
 ·rw[Gr a ws.length hh.1 hh.2]
  obtain⟨k,rfl⟩:=mu hh.1
  have hk:k<ws.length:=by omega
  refine aa 0 ?_
  refine aI.mk ⟨rfl,hh.1,hh.2⟩ ?_
  refine aT 1 rfl (Gx hk) ?_
  exact .done ⟨aV nX.symm,rfl⟩
 ·rw[F7 a ws.length hh]
  exact .done ⟨aV (YS hh).symm,rfl⟩
abbrev cd(p q:Nat)(ws:List Int)(σ:Hp):Hp:=(p,tE q ws.length)::(q,aO ws)::σ
theorem aStore(p q:Nat)(ws:List Int)(a x:Int)(σ:Hp):ACalls Tryz.prog 386 [.ptr p 0,.int .i64 a,.int .u64 x] (cd p q ws σ) (aE (.tup []) (cd p q (ig ws a x) σ)):=by
 refine az Tryz.func386 ?_
 refine aa 0 ?_
 refine ay [] (Is ws.length a _) ?_
 by_cases hh:0≤a∧a<(ws.length:Int)
 ·rw[Gr a ws.length hh.1 hh.2]
  obtain⟨k,rfl⟩:=mu hh.1
  have hk:k<ws.length:=by omega
  refine aa 0 ?_
  refine aI.mk ⟨rfl,hh.1,hh.2⟩ ?_
  refine da 1 rfl (KX x hk) ?_
  refine .done ⟨rfl,?_⟩
  show (p,tE q ws.length)::(q,aO (ws.set k x))::σ=_
  rw[lC];unfold cd;rw[cN]
 ·rw[F7 a ws.length hh]
  refine .done ⟨rfl,?_⟩
  rw[Xi hh];rfl
theorem aCas(p q:Nat)(ws:List Int)(a x y:Int)(σ:Hp):ACalls Tryz.prog 383 [.ptr p 0,.int .i64 a,.int .u64 x,.int .u64 y] (cd p q ws σ) (aE (.bool (nD ws a x)) (cd p q (jb ws a x y) σ)):=by
 refine az Tryz.func383 ?_
 refine aa 0 ?_
 refine ay [] (Is ws.length a _) ?_
 by_cases hh:0≤a∧a<(ws.length:Int)
 ·rw[Gr a ws.length hh.1 hh.2]
  have hH:=Cb hh.1 hh.2
  obtain⟨k,rfl⟩:=mu hh.1
  have hk:k<ws.length:=by omega
  refine aa 0 ?_
  refine aI.mk ⟨rfl,hh.1,hh.2⟩ ?_
  refine aT 1 rfl (Gx hk) ?_
  refine ew (fun he=>?_) (fun he=>?_)
  ·have he:¬ws.getD k 0=x:=by simpa using he
   have e1:nD ws k x=false:=by unfold nD;rw[hH,nX];simpa using he
   refine .done ⟨by rw[e1];rfl,?_⟩
   rw[show jb ws k x y=ws by simp[jb,e1]];rfl
  ·have he:ws.getD k 0=x:=by simpa using he
   have e1:nD ws k x=true:=by unfold nD;rw[hH,nX,he];simp
   refine aa 0 ?_
   refine aI.mk ⟨rfl,hh.1,hh.2⟩ ?_
   refine da 1 rfl (KX y hk) ?_
   refine .done ⟨by rw[e1];rfl,?_⟩
   show (p,tE q ws.length)::(q,aO (ws.set k y))::σ=_
   rw[show jb ws k x y=ws.set k y by simp[jb,e1,lC]];unfold cd;rw[List.length_set]
 ·have hb:=F7 a ws.length hh
  rw[hb]
  have e1:nD ws a x=false:=by simp only[nD,xa,hb,I7]
  refine .done ⟨by rw[e1];rfl,?_⟩
  rw[show jb ws a x y=ws by simp[jb,e1]];rfl
theorem aAdd(p q:Nat)(ws:List Int)(a d:Int)(σ:Hp):ACalls Tryz.prog 382 [.ptr p 0,.int .i64 a,.int .u64 d] (cd p q ws σ) (aE (.int .u64 (DF ws a d)) (cd p q (ni ws a d) σ)):=by
 refine az Tryz.func382 ?_
 refine aa 0 ?_
 refine ay [] (Is ws.length a _) ?_
 by_cases hh:0≤a∧a<(ws.length:Int)
 ·rw[Gr a ws.length hh.1 hh.2]
  have hH:=Cb hh.1 hh.2
  obtain⟨k,rfl⟩:=mu hh.1
  have hk:k<ws.length:=by omega
  have e1:DF ws k d=IntKind.u64.wrap (ws.getD k 0+d):=by rw[IntKind.wrap_u64];simp only[DF,hH,if_true,nX]
  have e2:ni ws k d=ws.set k (IntKind.u64.wrap (ws.getD k 0+d)):=by rw[IntKind.wrap_u64];simp only[ni,hH,if_true,nX,lC]
  refine aa 0 ?_
  refine aI.mk ⟨rfl,hh.1,hh.2⟩ ?_
  refine aT 1 rfl (Gx hk) ?_
  refine aI.mk ⟨rfl,hh.1,hh.2⟩ ?_
  refine da 1 rfl (KX _ hk) ?_
  refine aa 0 ?_
  refine aI.mk ⟨rfl,hh.1,hh.2⟩ ?_
  refine aT 1 rfl (Gx (ws:=ws.set k (IntKind.u64.wrap (ws.getD k 0+d))) (by rw[cN];exact hk)) ?_
  refine .done ⟨aV (by rw[e1];simp[List.getD,hk]),?_⟩
  rw[e2];unfold cd;rw[cN];rfl
 ·have hb:=F7 a ws.length hh
  rw[hb]
  refine .done ⟨aV (by unfold DF;unfold xa;rw[hb];rfl),?_⟩
  rw[show ni ws a d=ws by unfold ni xa;rw[hb];rfl];rfl
theorem VH(p q:Nat)(ws:List Int)(σ:Hp):ACalls Tryz.prog 384 [.ptr p 0] (cd p q ws σ) (aE (.int .i64 ws.length) (cd p q ws σ)):=by
 refine az Tryz.func384 ?_
 refine aa 0 ?_
 exact .done ⟨rfl,rfl⟩
theorem mLen_ : Meth Tryz.prog 94 "Len" 384 := fun a w => by kernel_rfl
theorem mLoad_ : Meth Tryz.prog 94 "Load" 385 := fun a w => by kernel_rfl
theorem mStore_ : Meth Tryz.prog 94 "Store" 386 := fun a w => by kernel_rfl
theorem mCAS_ : Meth Tryz.prog 94 "CAS" 383 := fun a w => by kernel_rfl
theorem mAdd_ : Meth Tryz.prog 94 "Add" 382 := fun a w => by kernel_rfl
theorem hStore_ : AheadOk Tryz.prog 94 "Store" := fun a w => by kernel_rfl
theorem hCAS_ : AheadOk Tryz.prog 94 "CAS" := fun a w => by kernel_rfl
theorem hAdd_ : AheadOk Tryz.prog 94 "Add" := fun a w => by kernel_rfl
theorem hLoad_ : AheadOk Tryz.prog 94 "Load" := fun a w => by kernel_rfl
abbrev mL(p:Nat):AV:=.iface 94 (.ptr p 0)
theorem dK(t:Nat)(x:AV)(σ:Hp):ACalls Tryz.prog 110 [.iface t x] σ (aE (.iface t x) σ):=by
 refine az Tryz.func110 ?_
 exact .done ⟨rfl,rfl⟩
structure kg where
 A:Type
 ld:A→Int→Int×A
 st:A→Int→Int→A
 cs:A→Int→Int→Int→Bool×A
 ad:A→Int→Int→Int×A
 ln:A→Int
 free:A→Prop
abbrev bG:kg where
 A:=List Int
 ld ws a:=(gJ ws a,ws)
 st ws a x:=ig ws a x
 cs ws a x y:=(nD ws a x,jb ws a x y)
 ad ws a d:=(DF ws a d,ni ws a d)
 ln ws:=ws.length
 free _:=True
structure AMem where
 O:kg
 S:Type
 abs:S→O.A
 B:S→Hp
 t:TypeId
 p:Nat
 load : ∃ g, Meth Tryz.prog t "Load" g ∧ ∀ (s : S) (a : Int) (σ : Hp), O.free (abs s) → ACalls Tryz.prog g [.ptr p 0, .int .i64 a] (B s ++ σ) (fun r σ' => ∃ s', abs s' = (O.ld (abs s) a).2 ∧ r = .int .u64 (O.ld (abs s) a).1 ∧ σ' = B s' ++ σ)
 store : ∃ g, Meth Tryz.prog t "Store" g ∧ ∀ (s : S) (a x : Int) (σ : Hp), O.free (abs s) → ACalls Tryz.prog g [.ptr p 0, .int .i64 a, .int .u64 x] (B s ++ σ) (fun r σ' => ∃ s', abs s' = O.st (abs s) a x ∧ r = .tup [] ∧ σ' = B s' ++ σ)
 cas : ∃ g, Meth Tryz.prog t "CAS" g ∧ ∀ (s : S) (a x y : Int) (σ : Hp), O.free (abs s) → ACalls Tryz.prog g [.ptr p 0, .int .i64 a, .int .u64 x, .int .u64 y] (B s ++ σ) (fun r σ' => ∃ s', abs s' = (O.cs (abs s) a x y).2 ∧ r = .bool (O.cs (abs s) a x y).1 ∧ σ' = B s' ++ σ)
 add : ∃ g, Meth Tryz.prog t "Add" g ∧ ∀ (s : S) (a d : Int) (σ : Hp), O.free (abs s) → ACalls Tryz.prog g [.ptr p 0, .int .i64 a, .int .u64 d] (B s ++ σ) (fun r σ' => ∃ s', abs s' = (O.ad (abs s) a d).2 ∧ r = .int .u64 (O.ad (abs s) a d).1 ∧ σ' = B s' ++ σ)
 hL : AheadOk Tryz.prog t "Load"
 hS : AheadOk Tryz.prog t "Store"
 hC : AheadOk Tryz.prog t "CAS"
 hA : AheadOk Tryz.prog t "Add"
 len : ∃ g, Meth Tryz.prog t "Len" g ∧ ∀ (s : S) (σ : Hp), ACalls Tryz.prog g [.ptr p 0] (B s ++ σ) (fun r σ' => ∃ s', abs s' = abs s ∧ r = .int .i64 (O.ln (abs s)) ∧ σ' = B s' ++ σ)
abbrev AMem.v(M:AMem):AV:=.iface M.t (.ptr M.p 0)
theorem sR(fr b σ:Hp):(b++(fr++σ)).Perm (fr++(b++σ)):=by
 rw[← dQ,← dQ]
 exact List.Perm.append_right _ Oj
section
variable (M:AMem) (fr:Hp) {s:M.S} {σ:Hp} {K:AV→Hp→Prop}
theorem AMem.aLoad {a : Int} (hf : M.O.free (M.abs s)) (k : ∀ s', M.abs s' = (M.O.ld (M.abs s) a).2 → K (.int .u64 (M.O.ld (M.abs s) a).1) (fr ++ (M.B s' ++ σ))) : InvAt Tryz.prog M.t "Load" fun g => CallAt Tryz.prog g K [.ptr M.p 0, .int .i64 a] (fr ++ (M.B s ++ σ)) := by
 obtain⟨g,h1,h2⟩:=M.load
 refine⟨g,h1,.perm _ (sR fr (M.B s) σ) (h2 s a (fr++σ) hf) ?_⟩
 rintro r σ' ⟨s',h3,rfl,rfl⟩
 exact⟨_,(sR fr (M.B s') σ).symm,k s' h3⟩
theorem AMem.aStore {a x : Int} (hf : M.O.free (M.abs s)) (k : ∀ s', M.abs s' = M.O.st (M.abs s) a x → K (.tup []) (fr ++ (M.B s' ++ σ))) : InvAt Tryz.prog M.t "Store" fun g => CallAt Tryz.prog g K [.ptr M.p 0, .int .i64 a, .int .u64 x] (fr ++ (M.B s ++ σ)) := by
 obtain⟨g,h1,h2⟩:=M.store
 refine⟨g,h1,.perm _ (sR fr (M.B s) σ) (h2 s a x (fr++σ) hf) ?_⟩
 rintro r σ' ⟨s',h3,rfl,rfl⟩
 exact⟨_,(sR fr (M.B s') σ).symm,k s' h3⟩
theorem AMem.aCas {a x y : Int} (hf : M.O.free (M.abs s)) (k : ∀ s', M.abs s' = (M.O.cs (M.abs s) a x y).2 → K (.bool (M.O.cs (M.abs s) a x y).1) (fr ++ (M.B s' ++ σ))) : InvAt Tryz.prog M.t "CAS" fun g => CallAt Tryz.prog g K [.ptr M.p 0, .int .i64 a, .int .u64 x, .int .u64 y] (fr ++ (M.B s ++ σ)) := by
 obtain⟨g,h1,h2⟩:=M.cas
 refine⟨g,h1,.perm _ (sR fr (M.B s) σ) (h2 s a x y (fr++σ) hf) ?_⟩
 rintro r σ' ⟨s',h3,rfl,rfl⟩
 exact⟨_,(sR fr (M.B s') σ).symm,k s' h3⟩
theorem AMem.aCasB {a x y : Int} (hf : M.O.free (M.abs s)) (k1 : ∀ s', M.abs s' = (M.O.cs (M.abs s) a x y).2 → (M.O.cs (M.abs s) a x y).1 = true → K (.bool true) (fr ++ (M.B s' ++ σ))) (k2 : ∀ s', M.abs s' = (M.O.cs (M.abs s) a x y).2 → (M.O.cs (M.abs s) a x y).1 = false → K (.bool false) (fr ++ (M.B s' ++ σ))) : InvAt Tryz.prog M.t "CAS" fun g => CallAt Tryz.prog g K [.ptr M.p 0, .int .i64 a, .int .u64 x, .int .u64 y] (fr ++ (M.B s ++ σ)) :=
 M.aCas fr hf fun s' h=>by
  cases hb:(M.O.cs (M.abs s) a x y).1 with
  |true=>exact k1 s' h hb
  |false=>exact k2 s' h hb
theorem AMem.aAdd {a d : Int} (hf : M.O.free (M.abs s)) (k : ∀ s', M.abs s' = (M.O.ad (M.abs s) a d).2 → K (.int .u64 (M.O.ad (M.abs s) a d).1) (fr ++ (M.B s' ++ σ))) : InvAt Tryz.prog M.t "Add" fun g => CallAt Tryz.prog g K [.ptr M.p 0, .int .i64 a, .int .u64 d] (fr ++ (M.B s ++ σ)) := by
 obtain⟨g,h1,h2⟩:=M.add
 refine⟨g,h1,.perm _ (sR fr (M.B s) σ) (h2 s a d (fr++σ) hf) ?_⟩
 rintro r σ' ⟨s',h3,rfl,rfl⟩
 exact⟨_,(sR fr (M.B s') σ).symm,k s' h3⟩
end
def yo(p q:Nat):AMem where
 O:=bG
 S:=List Int
 abs ws:=ws
 B ws:=[(p,tE q ws.length),(q,aO ws)]
 t:=94
 p:=p
 load:=⟨_,mLoad_,fun ws a σ _=>(Go.Proofs.YtnikdflhefijbaaGreat.aLoad p q ws a σ).mono fun _ _ h=>⟨ws,rfl,h.1,h.2⟩⟩
 store:=⟨_,mStore_,fun ws a x σ _=>(Go.Proofs.YtnikdflhefijbaaGreat.aStore p q ws a x σ).mono fun _ _ h=>⟨_,rfl,h.1,h.2⟩⟩
 cas:=⟨_,mCAS_,fun ws a x y σ _=>(Go.Proofs.YtnikdflhefijbaaGreat.aCas p q ws a x y σ).mono fun _ _ h=>⟨_,rfl,h.1,h.2⟩⟩
 add:=⟨_,mAdd_,fun ws a d σ _=>(Go.Proofs.YtnikdflhefijbaaGreat.aAdd p q ws a d σ).mono fun _ _ h=>⟨_,rfl,h.1,h.2⟩⟩
 hL:=hLoad_
 hS:=hStore_
 hC:=hCAS_
 hA:=hAdd_
 len:=⟨_,mLen_,fun ws σ=>(Go.Proofs.YtnikdflhefijbaaGreat.VH p q ws σ).mono fun _ _ h=>⟨ws,rfl,h.1,h.2⟩⟩
abbrev wr(n:Int):Int:=IntKind.i64.wrap n
structure Tk where
 f:Int
 c:Int
 v:Int
 new:Bool
 ended:Bool
 jZ:Bool
def y6(t:Tk):List AV:=[.int .i64 t.f,.int .i64 t.c,.int .i64 t.v,.bool t.new,.bool t.ended,.bool t.jZ]
def kT(O:kg)(t:Tk)(a:O.A):Tk×O.A×Bool:=
 if t.ended then (t,a,true)
 else if t.jZ then ({ t with ended:=true },(O.ad a t.c 1).2,true)
 else if 0≤t.v then
  (if (O.cs a (wr (t.f+t.v)) 0 1).1 then ({ t with jZ:=true,new:=true },(O.cs a (wr (t.f+t.v)) 0 1).2,false) else ({ t with jZ:=true,new:=false,ended:=true },(O.cs a (wr (t.f+t.v)) 0 1).2,true))
 else ({ t with jZ:=true,new:=false,ended:=true },a,true)
def qf(M:AMem)(σ:Hp){X:Type}(B:X→List AV)(r:Nat)(res:X×M.O.A×Bool):AV→Hp→Prop:=
 fun x σ'=>∃m',M.abs m'=res.2.1∧x=.bool res.2.2∧σ'=(r,B res.1)::(M.B m'++σ)
theorem kb{M:AMem}{σ:Hp}{X:Type}{B:X→List AV}{r:Nat}{res:X×M.O.A×Bool}{x:X}{a:M.O.A}{b:Bool}{m':M.S}(h:res=(x,a,b))(hm:M.abs m'=a):qf M σ B r res (.bool b) ((r,B x)::(M.B m'++σ)):=by
 subst h
 exact⟨m',hm,rfl,rfl⟩
theorem HK(M:AMem)(r:Nat)(t:Tk)(m:M.S)(d:Int)(σ:Hp)(hf:M.O.free (M.abs m)):ACalls Tryz.prog 408 [.ptr r 0,M.v,.int .i64 d] ((r,y6 t)::(M.B m++σ)) (qf M σ y6 r (kT M.O t (M.abs m))):=by
 refine az Tryz.func408 ?_
 refine fE.kD 0 _ _ rfl rfl (fun h0=>?_) (fun h0=>?_)
 ·exact .done (kb (x:=t) (by simp[kT,h0]) rfl)
 refine ay [] (dK _ _ _) ?_
 refine fE.kD 0 _ _ rfl rfl (fun h1=>?_) (fun h1=>?_)
 ·refine .each (by kernel_rfl) ?_
  refine aa 0 ?_
  refine fi.mk M.hA ?_
  refine M.aAdd [_] hf fun m' hm=>?_
  refine .fwd 1 ?_
  refine ai 0 ?_
  exact .done (kb (x:= { t with ended:=true }) (by simp[kT,h0,h1]) hm)
 refine ai 0 ?_
 refine .each (by kernel_rfl) ?_
 by_cases h2:0≤t.v
 ·repeat' first
   |refine And.intro ?_ ?_
   |refine aa 0 ?_
   |refine aq (fun _=>?_) (fun h=>absurd h2 h)
   |refine fi.mk M.hC ?_
  all_goals
   refine M.aCasB [_] hf (fun m' hm hb=>?_) (fun m' hm hb=>?_)
   ·refine ai 0 ?_
    refine aa 0 ?_
    exact .done (kb (x:= { t with jZ:=true,new:=true }) (by simp[kT,h0,h1,h2,hb]) hm)
   ·refine ai 0 ?_
    refine aa 0 ?_
    refine ai 0 ?_
    exact .done (kb (x:= { t with jZ:=true,new:=false,ended:=true }) (by simp[kT,h0,h1,h2,hb]) hm)
 ·repeat' first
   |refine And.intro ?_ ?_
   |refine aa 0 ?_
   |refine aq (fun h=>absurd h h2) (fun _=>?_)
   |refine ai 0 ?_
  all_goals
   exact .done (kb (x:= { t with jZ:=true,new:=false,ended:=true }) (by simp[kT,h0,h1,h2]) rfl)
structure Ck where
 f:Int
 c:Int
 v:Int
 ended:Bool
def Fg(t:Ck):List AV:=[.int .i64 t.f,.int .i64 t.c,.int .i64 t.v,.bool t.ended]
def rR(O:kg)(t:Ck)(a:O.A):Ck×O.A×Bool:=
 if t.ended then (t,a,true) else ({ t with ended:=true },if 0≤t.v then O.st a (wr (t.f+t.v)) 0 else a,true)
theorem UB(M:AMem)(r:Nat)(t:Ck)(m:M.S)(d:Int)(σ:Hp)(hf:M.O.free (M.abs m)):ACalls Tryz.prog 405 [.ptr r 0,M.v,.int .i64 d] ((r,Fg t)::(M.B m++σ)) (qf M σ Fg r (rR M.O t (M.abs m))):=by
 refine az Tryz.func405 ?_
 refine fE.kD 0 _ _ rfl rfl (fun h0=>?_) (fun h0=>?_)
 ·exact .done (kb (x:=t) (by simp[rR,h0]) rfl)
 refine ai 0 ?_
 refine aa 0 ?_
 refine aq (fun h2=>?_) (fun h2=>?_)
 ·have h2:0≤t.v:=h2
  refine .each (by kernel_rfl) ?_
  repeat' first
   |refine And.intro ?_ ?_
   |refine aa 0 ?_
   |refine ay [] (dK _ _ _) ?_
   |refine fi.mk M.hS ?_
  all_goals
   refine M.aStore [_] hf fun m' hm=>?_
   exact .done (kb (x:= { t with ended:=true }) (by simp[rR,h0,h2]) hm)
 ·have h2:¬0≤t.v:=h2
  exact .done (kb (x:= { t with ended:=true }) (by simp[rR,h0,h2]) rfl)
structure Rk where
 f:Int
 c:Int
 left:Int
 ended:Bool
def D9(t:Rk):List AV:=[.int .i64 t.f,.int .i64 t.c,.int .i64 t.left,.bool t.ended]
def s5(O:kg)(t:Rk)(a:O.A):Rk×O.A×Bool:=
 if t.ended then (t,a,true) else ({ t with ended:=true,left:=wr (O.ad a t.c 18446744073709551615).1 },(O.ad a t.c 18446744073709551615).2,true)
theorem Ty(M:AMem)(r:Nat)(t:Rk)(m:M.S)(d:Int)(σ:Hp)(hf:M.O.free (M.abs m)):ACalls Tryz.prog 410 [.ptr r 0,M.v,.int .i64 d] ((r,D9 t)::(M.B m++σ)) (qf M σ D9 r (s5 M.O t (M.abs m))):=by
 refine az Tryz.func410 ?_
 refine fE.kD 0 _ _ rfl rfl (fun h0=>?_) (fun h0=>?_)
 ·exact .done (kb (x:=t) (by simp[s5,h0]) rfl)
 refine ai 0 ?_
 refine .each (by kernel_rfl) ?_
 repeat' first
  |refine And.intro ?_ ?_
  |refine aa 0 ?_
  |refine ay [] (dK _ _ _) ?_
  |refine fi.mk M.hA ?_
 all_goals
  refine M.aAdd [_] hf fun m' hm=>?_
  refine ai 0 ?_
  exact .done (kb (x:= { t with ended:=true,left:=wr (M.O.ad (M.abs m) t.c 18446744073709551615).1 }) (by simp[s5,h0]) hm)
structure Qk where
 f:Int
 c:Int
 is:Bool
 ended:Bool
def Eb(t:Qk):List AV:=[.int .i64 t.f,.int .i64 t.c,.bool t.is,.bool t.ended]
def rQ(O:kg)(t:Qk)(a:O.A):Qk×O.A×Bool:=
 if t.ended then (t,a,true) else ({ t with ended:=true,is:=decide ((O.ld a t.c).1=0) },(O.ld a t.c).2,true)
theorem Hn(M:AMem)(r:Nat)(t:Qk)(m:M.S)(d:Int)(σ:Hp)(hf:M.O.free (M.abs m)):ACalls Tryz.prog 404 [.ptr r 0,M.v,.int .i64 d] ((r,Eb t)::(M.B m++σ)) (qf M σ Eb r (rQ M.O t (M.abs m))):=by
 refine az Tryz.func404 ?_
 refine fE.kD 0 _ _ rfl rfl (fun h0=>?_) (fun h0=>?_)
 ·exact .done (kb (x:=t) (by simp[rQ,h0]) rfl)
 refine ai 0 ?_
 refine .each (by kernel_rfl) ?_
 repeat' first
  |refine And.intro ?_ ?_
  |refine aa 0 ?_
  |refine ay [] (dK _ _ _) ?_
  |refine fi.mk M.hL ?_
 all_goals
  refine M.aLoad [_] hf fun m' hm=>?_
  refine aq (fun h2=>?_) (fun h2=>?_)
  ·have h2:(M.O.ld (M.abs m) t.c).1=0:=h2
   refine ai 0 ?_
   exact .done (kb (x:= { t with ended:=true,is:=true }) (by simp[rQ,h0,h2]) hm)
  ·have h2:¬(M.O.ld (M.abs m) t.c).1=0:=h2
   refine ai 0 ?_
   exact .done (kb (x:= { t with ended:=true,is:=false }) (by simp[rQ,h0,h2]) hm)
end Go.Proofs.YtnikdflhefijbaaGreat
namespace Go.Proofs.YtnikdflhefijbaaGreat
set_option maxRecDepth 100000 in
theorem adD(xs ys:List Int)(σ:Hp)(h1:xs.length≤1000000):ACalls Tryz.prog 63 [.af (.int .u64) xs,.af (.int .u64) ys] σ (fun r σ'=>r=.bool (decide (xs=ys))∧σ'=σ):=by
 refine az Tryz.func63 ?_
 refine ew (fun hl=>?_) (fun hl=>?_)
 ·have:xs≠ys:=by rintro rfl;simp at hl
  exact .done ⟨by simp[this];rfl,rfl⟩
 ·have hl:(!decide ((xs.length:Int)=(ys.length:Int)))=false:=hl
  have hlen:xs.length=ys.length:=by simp at hl;omega
  refine cc (S:=Nat) (fun k=>[(0,.af (.int .u64) xs),(1,.af (.int .u64) ys),(12,.int .i64 xs.length),(13,.int .i64 k)]) (fun _=>σ) (fun k=>k≤xs.length∧xs.take k=ys.take k) (fun k=>xs.length-k) 0 ⟨⟨bD _,rfl⟩,⟨rfl,rfl,rfl,rfl,trivial⟩,rfl⟩ ?_
  rintro k g ⟨hk,fK⟩
  refine aq (fun ab=>?_) (fun au=>?_)
  ·have ec:k<xs.length:=by omega
   have DO:k<ys.length:=by omega
   refine gz.quiet (by kernel_rfl) ?_
   refine aI.mk rfl (bL.mk xs[k] (by omega) (get_some ec) ?_)
   refine aI.mk rfl (bL.mk ys[k] (by omega) (get_some DO) ?_)
   refine ew (fun hx=>?_) (fun hx=>?_)
   ·have:xs≠ys:=by rintro rfl;simp at hx
    exact .done ⟨by simp[this];rfl,rfl⟩
   ·have jW:xs[k]=ys[k]:=by simpa using hx
    refine next (k+1) (Nat.sub_lt_sub_left ec (Nat.lt_succ_self k)) ⟨ec,?_⟩ ⟨rfl,rfl,rfl,aY (by omega),trivial⟩ rfl
    rw[fL ec,fL DO,fK,jW]
  ·obtain rfl:k=xs.length:=by omega
   have:xs=ys:=by
    rw[gn]at fK
    rw[fK,hlen,gn]
   exact .done ⟨by simp[this];rfl,rfl⟩
set_option maxRecDepth 100000
theorem PZ{α:Type}{f:α→Hp}{l:List α}{j:Nat}(h:j<l.length):(l.flatMap f).Perm (f l[j]++(l.eraseIdx j).flatMap f):=by
 induction l generalizing j with
 |nil=>simp at h
 |cons x l ih=>
  cases j with
  |zero=>exact List.Perm.refl _
  |succ j=>
   rw[zr]
   have:=ih (j:=j) (by simpa using h)
   refine (List.Perm.append_left _ this).trans ?_
   simp only[List.getElem_cons_succ,List.eraseIdx_cons_succ,zr,← dQ]
   exact List.Perm.append_right _ Oj
theorem Y1{α:Type}{f:α→Hp}{l:List α}{j:Nat}(h:j<l.length)(y:α):((l.set j y).flatMap f).Perm (f y++(l.eraseIdx j).flatMap f):=by
 have:=PZ (f:=f) (l:=l.set j y) (j:=j) (by simpa using h)
 rw[List.getElem_set_self,Oh]at this
 exact this
set_option maxHeartbeats 4000000
def cb(p:Int)(n:Nat):Nat:=if n<1 then 0 else (p % (n:Int)).toNat
theorem rN{p:Int}{n:Nat}(h:0<n):cb p n<n:=by
 unfold cb
 rw[ag (by omega)]
 have h1:=Ja p (show (n:Int)≠0 by omega)
 have h2:=Jk p (show (0:Int)<n by omega)
 omega
theorem abB{p:Int}{n:Nat}(h0:0<n)(hn:n≤1000000)(h:p.tmod n<0):IntKind.i64.wrap (p.tmod n+n)=((cb p n:Nat):Int):=by
 have h1:=Ja p (show (n:Int)≠0 by omega)
 have h2:=Jk p (show (0:Int)<n by omega)
 have e:= @Int.tmod_eq_emod p n
 unfold cb
 rw[ag (by omega),IntKind.wrap_i64]
 split at e <;> omega
theorem abA{p:Int}{n:Nat}(h0:0<n)(h:¬p.tmod n<0):p.tmod n=((cb p n:Nat):Int):=by
 have h1:=Ja p (show (n:Int)≠0 by omega)
 have h2:=Jk p (show (0:Int)<n by omega)
 have e:= @Int.tmod_eq_emod p n
 unfold cb
 rw[ag (by omega)]
 split at e <;> omega
theorem ZJ{p:Int}{n:Nat}(h:(n:Int)<1):(0:Int)=((cb p n:Nat):Int):=by
 unfold cb
 rw[ah (by omega)];rfl
theorem td(p d:Int)(n:Nat)(σ:Hp)(hn:n≤1000000):ACalls Tryz.prog 70 [.agg [.int .i64 p,.int .i64 d],.int .i64 n] σ (aE (.int .i64 (cb p n)) σ):=by
 refine az Tryz.func70 ?_
 intro aG
 refine aq (fun c2=>?_) (fun c2=>?_)
 ·have c2:(↑n:Int)<1:=c2
  exact .drop 0 1 (.done ⟨aV (ZJ (by assumption)),rfl⟩)
 ·have c2:¬((↑n:Int)<1):=c2
  refine aa 0 ?_
  refine ei ?_
  refine aq (fun c3=>?_) (fun c3=>?_)
  ·have c3:p.tmod (↑n:Int)<0:=c3
   exact .drop 0 1 (.done ⟨aV (abB (by omega) hn (by assumption)),rfl⟩)
  ·have c3:¬(p.tmod (↑n:Int)<0):=c3
   exact .drop 0 1 (.done ⟨aV (abA (by omega) (by assumption)),rfl⟩)
def jM(l:List Bool):List AV:=l.map AV.bool
theorem sY{dn:List Bool}{k:Nat}(h:k<dn.length){b:Bool}(hb:dn[k]=b):(jM dn)[0+((k:Int)).toNat*1]?=some (.bool b):=by
 simp[jM,h,hb]
theorem Up{dn:List Bool}{k:Nat}(h:k<dn.length)(hd:dn[k]=false):dn.all id=false:=by
 cases ha:dn.all id with
 |false=>rfl
 |true=>
  have:=fy.1 ha _ (cj h)
  rw[hd]at this
  cases this
theorem HO(sv:AV)(u:Int)(b:Nat)(dn:List Bool)(σ:Hp)(hn:dn.length≤1000000):ACalls Tryz.prog 42 [.agg [sv,.ae b 0 dn.length 1,.int .i64 u]] ((b,jM dn)::σ) (aE (.bool (dn.all id)) ((b,jM dn)::σ)):=by
 refine az Tryz.func42 ?_
 intro aG
 refine aa 0 ?_
 refine cc (S:=Nat) (fun s=>[(6,.ae b 0 dn.length 1),(7,.int .i64 dn.length),(8,.int .i64 s)]) (fun _=>(aG,[sv,.ae b 0 dn.length 1,.int .i64 u])::(b,jM dn)::σ) (fun s=>s≤dn.length∧(dn.take s).all id=true) (fun s=>dn.length-s) 0 ⟨⟨bD _,rfl⟩,⟨rfl,rfl,rfl,trivial⟩,rfl⟩ ?_
 rintro k g ⟨hk,cH⟩
 refine aq (fun h=>?_) (fun h=>?_)
 ·have h:(k:Int)<dn.length:=h
  have mQ:k<dn.length:=by omega
  refine aM ?_
  cases hd:dn[k] with
  |true=>
   refine aT 1 rfl (sY mQ hd) ?_
   refine bj (k+1) ?_ ⟨mQ,?_⟩ ⟨rfl,rfl,aY (by omega),trivial⟩ (aJ rfl)
   ·show dn.length-(k+1)<dn.length-k;omega
   ·rw[fL mQ,Bv,cH,hd];rfl
  |false=>
   refine aT 1 rfl (sY mQ hd) ?_
   exact .drop 0 1 (.done ⟨congrArg AV.bool (Up mQ hd).symm,rfl⟩)
 ·have h:¬(k:Int)<dn.length:=h
  exact .drop 0 1 (.done ⟨congrArg AV.bool (by rw[← eG (show dn.length≤k by omega)];exact cH.symm),rfl⟩)
def kC(l:List Int):List AV:=l.map (AV.int .i64)
def isNil:AV→Bool
 |.nilif=>true
 |_=>false
theorem abY(n:Nat):cM [.bool false] n=jM (List.replicate n false):=by
 unfold jM
 induction n with
 |zero=>rfl
 |succ n ih=>simp[cM,ih,List.replicate_succ]
theorem abX(n:Nat):cM [.int .i64 0] n=kC (List.replicate n 0):=by
 unfold kC
 induction n with
 |zero=>rfl
 |succ n ih=>simp[cM,ih,List.replicate_succ]
def sL(L:List AV)(k:Nat):List Bool:=(L.take k).map isNil++List.replicate (L.length-k) false
theorem aaQ(L:List AV):sL L 0=List.replicate L.length false:=by simp[sL]
theorem J5(L:List AV)(k:Nat)(h:k≤L.length):(sL L k).length=L.length:=by simp[sL];omega
theorem To(L:List AV):sL L L.length=L.map isNil:=by simp[sL]
theorem Tn(L:List AV)(k:Nat)(h:k<L.length):(sL L k).set k (isNil L[k])=sL L (k+1):=by
 unfold sL
 rw[show L.length-k=(L.length-(k+1))+1 by omega,Ox,fL h,cO]
 have hl:((L.take k).map isNil).length=k:=by simp;omega
 rw[JC _ _ (by omega),hl,pL]
 simp
theorem Az{L:List AV}{k:Nat}(h:k<L.length){x:AV}(hx:L[k]=x):L[0+((k:Int)).toNat*1]?=some x:=by
 rw[show 0+((k:Int)).toNat*1=k by omega,bF h,hx]
theorem sX{dn:List Bool}{k:Nat}(b:Bool)(h:k<dn.length):kQ ⟨.bool,1,1,[.bool false]⟩ (jM dn) (0+((k:Int)).toNat*1) (.bool b)=some (jM (dn.set k b)):=by
 have e:0+((k:Int)).toNat*1=k:=by omega
 have h2:Nat.ble (k+1) (jM dn).length=true:=Nat.ble_eq_true_of_le (by simp[jM];omega)
 rw[e]
 show (match Nat.beq 1 1,Nat.ble (k+1) (jM dn).length with | true,true=>some (ga (jM dn) k [.bool b]) | _,_=>none)=_
 rw[h2]
 show some ((jM dn).set k (.bool b))=_
 rw[show (jM dn).set k (.bool b)=jM (dn.set k b) by simp[jM,List.map_set]]
theorem wJ{l:List Int}{k:Nat}(h:k<l.length):(kC l)[0+((k:Int)).toNat*1]?=some (.int .i64 (l.getD k 0)):=by
 simp[kC,h,List.getD]
theorem wI{l:List Int}{k:Nat}(x:Int)(h:k<l.length):kQ ⟨.int .i64,1,8,[.int .i64 0]⟩ (kC l) (0+((k:Int)).toNat*1) (.int .i64 x)=some (kC (l.set k x)):=by
 have e:0+((k:Int)).toNat*1=k:=by omega
 have h2:Nat.ble (k+1) (kC l).length=true:=Nat.ble_eq_true_of_le (by simp[kC];omega)
 rw[e]
 show (match Nat.beq 1 1,Nat.ble (k+1) (kC l).length with | true,true=>some (ga (kC l) k [.int .i64 x]) | _,_=>none)=_
 rw[h2]
 show some ((kC l).set k (.int .i64 x))=_
 rw[show (kC l).set k (.int .i64 x)=kC (l.set k x) by simp[kC,List.map_set]]
structure kM(A:Type) where
 a:A
 st:List Int
 dn:List Bool
 us:Nat
def mE{A:Type}(step:A→Nat→Int→A×Bool)(tell:A→Nat→A)(n:Nat)(x:kM A)(p:Int×Int×Unit):kM A:=
 if x.dn.getD (cb p.1 n) true then ⟨tell x.a (x.us+1),x.st,x.dn,x.us+1⟩
 else ⟨tell (step x.a (cb p.1 n) p.2.1).1 (x.us+1),x.st.set (cb p.1 n) (wr (x.st.getD (cb p.1 n) 0+1)),x.dn.set (cb p.1 n) (step x.a (cb p.1 n) p.2.1).2,x.us+1⟩
def lW{A:Type}(step:A→Nat→Int→A×Bool)(tell:A→Nat→A)(n:Nat):List (Int×Int×Unit)→kM A→kM A
 | [],x=>x
 |p::ps,x=>if x.dn.all id then x else lW step tell n ps (mE step tell n x p)
structure AWorld where
 A:Type
 S:Type
 abs:S→A
 B:S→Hp
 L:List AV
 mt:TypeId
 mp:Nat
 step:A→Nat→Int→A×Bool
 tell:A→Nat→A
 free:A→Prop
 keeps:∀a i d,free a→i<L.length→free (step a i d).1
 told:∀a k,free a→free (tell a k)
 mach : ∀ i (h : i < L.length), L[i] = .nilif ∨ ∃ t r, L[i] = .iface t (.ptr r 0) ∧ ∃ g, Meth Tryz.prog t "Step" g ∧
  ∀(s:S) (d:Int) (σ:Hp),free (abs s)→ACalls Tryz.prog g [.ptr r 0,.iface mt (.ptr mp 0),.int .i64 d] (B s++σ) (fun x σ'=>∃s',abs s'=(step (abs s) i d).1∧x=.bool (step (abs s) i d).2∧σ'=B s'++σ)
abbrev AWorld.mv(W:AWorld):AV:=.iface W.mt (.ptr W.mp 0)
def AWorld.init(W:AWorld)(a:W.A):kM W.A:=⟨a,List.replicate W.L.length 0,W.L.map isNil,0⟩
theorem AWorld.aStep (W : AWorld) (fr : Hp) {s : W.S} {σ : Hp} {K : AV → Hp → Prop} {i r : Nat} {t : TypeId} {g : FuncId} {d : Int} (hMe : Meth Tryz.prog t "Step" g)
  (gR:∀(s:W.S) (d:Int) (σ:Hp),W.free (W.abs s)→ACalls Tryz.prog g [.ptr r 0,.iface W.mt (.ptr W.mp 0),.int .i64 d] (W.B s++σ) (fun x σ'=>∃s',W.abs s'=(W.step (W.abs s) i d).1∧x=.bool (W.step (W.abs s) i d).2∧σ'=W.B s'++σ))
  (hf : W.free (W.abs s)) (k : ∀ s', W.abs s' = (W.step (W.abs s) i d).1 → K (.bool (W.step (W.abs s) i d).2) (fr ++ (W.B s' ++ σ))) : InvAt Tryz.prog t "Step" fun g => CallAt Tryz.prog g K [.ptr r 0, W.mv, .int .i64 d] (fr ++ (W.B s ++ σ)) := by
 refine⟨g,hMe,.perm _ (sR fr (W.B s) σ) (gR s d (fr++σ) hf) ?_⟩
 rintro r σ' ⟨s',h3,rfl,rfl⟩
 exact⟨_,(sR fr (W.B s') σ).symm,k s' h3⟩
def AWorld.run(W:AWorld)(aC:List (Int×Int×Unit))(a:W.A):kM W.A:=lW W.step W.tell W.L.length aC (W.init a)
def KW(W:AWorld)(aC:List (Int×Int×Unit))(a:W.A)(fr σ:Hp):AV→Hp→Prop:=fun x σ'=>∃s',W.abs s'=(W.run aC a).a∧x=.agg [.af (.int .i64) (W.run aC a).st,.af .bool (W.run aC a).dn,.int .i64 (W.run aC a).us]∧σ'=fr++(W.B s'++σ)
theorem nq{b off len es:Nat}{e:Sh}{l:List e.T}{x1 x2 x3 y1 y2 y3:AV}(h1:eI b off len es e l x1 y1)(h2:eI b off len es e l x2 y2)(h3:eI b off len es e l x3 y3)(l1:y1.leaf=true)(l2:y2.leaf=true)(l3:y3.leaf=true):eI b off len es e l (.agg [x1,x2,x3]) (.agg [y1,y2,y3]):=by
 refine .agg _ _ rfl (fun i y hy=>?_) (fun i x y hx hy=>?_)
 ·match i,hy with
  | 0,hy=>cases hy;exact l1
  | 1,hy=>cases hy;exact l2
  | 2,hy=>cases hy;exact l3
  |i+3,hy=>cases hy
 ·match i,hx,hy with
  | 0,hx,hy=>cases hx;cases hy;exact h1
  | 1,hx,hy=>cases hx;cases hy;exact h2
  | 2,hx,hy=>cases hx;cases hy;exact h3
  |i+3,hx,hy=>cases hx
theorem Rv:∀(ws:List Int),kC ws=ws.flatMap (Sh.cells (.int .i64))
 | []=>rfl
 |z::ws=>congrArg (AV.int .i64 z :: ·) (Rv ws)
theorem Sk:∀(ws:List Bool),jM ws=ws.flatMap (Sh.cells .bool)
 | []=>rfl
 |z::ws=>congrArg (AV.bool z :: ·) (Sk ws)
theorem wK{l:List Int}{n:Nat}(h:l.length=n):((kC l).drop 0).take (n*1)=l.flatMap (Sh.cells (.int .i64)):=by
 rw[gM,← Rv]
 exact List.take_of_length_le (by simp[kC,h])
theorem wP{l:List Bool}{n:Nat}(h:l.length=n):((jM l).drop 0).take (n*1)=l.flatMap (Sh.cells .bool):=by
 rw[gM,← Sk]
 exact List.take_of_length_le (by simp[jM,h])
def vd(W:AWorld)(aC:List (Int×Int×Unit))(a0:W.A)(x:W.S×List Int×List Bool×Nat):Prop:=
 x.2.2.2≤aC.length∧x.2.1.length=W.L.length∧x.2.2.1.length=W.L.length∧(∀i (h:i<W.L.length),W.L[i]=.nilif→x.2.2.1[i]?=some true)∧W.free (W.abs x.1)∧lW W.step W.tell W.L.length (aC.drop x.2.2.2) ⟨W.abs x.1,x.2.1,x.2.2.1,x.2.2.2⟩=W.run aC a0
theorem acF{A:Type}{step:A→Nat→Int→A×Bool}{tell:A→Nat→A}{n:Nat}(l:List (Int×Int×Unit)){x:kM A}(h:x.dn.all id=true):lW step tell n l x=x:=by
 cases l with
 |nil=>rfl
 |cons p ps=>rw[lW,ah h]
theorem R8{A:Type}{step:A→Nat→Int→A×Bool}{tell:A→Nat→A}{n:Nat}(p:Int×Int×Unit)(ps:List (Int×Int×Unit)){x:kM A}(h:x.dn.all id=false):lW step tell n (p::ps) x=lW step tell n ps (mE step tell n x p):=by
 rw[lW,ag (by rw[h];decide)]
theorem wO{W:AWorld}{aC:List (Int×Int×Unit)}{a0:W.A}{s:W.S}{st:List Int}{dn:List Bool}{us:Nat}(h:vd W aC a0 (s,st,dn,us))(he:us=aC.length∨dn.all id=true):W.run aC a0=⟨W.abs s,st,dn,us⟩:=by
 obtain⟨_,_,_,_,_,hg⟩:=h
 rw[← hg]
 rcases he with he | he
 ·show lW _ _ _ (aC.drop us) _=_
  rw[he,List.drop_length];rfl
 ·exact acF _ he
theorem S9{dn:List Bool}{i:Nat}{b d:Bool}(h:i<dn.length)(hd:dn[i]=b):dn.getD i d=b:=by
 rw[bg,bF h,hd];rfl
theorem Gp{W:AWorld}{aC:List (Int×Int×Unit)}{a0:W.A}{s:W.S}{st:List Int}{dn:List Bool}{us i:Nat}{pw pd:Int}{pu:Unit}(h:vd W aC a0 (s,st,dn,us))(l7:∀a k,W.tell a k=a)(cH:dn.all id=false)(fR:us<aC.length)(eV:(pw,pd,pu)=aC[us])(hi:i=cb pw W.L.length)(dY:i<dn.length)(hd:dn[i]=true):vd W aC a0 (s,st,dn,us+1):=by
 obtain⟨h1,h2,h3,h4,h5,hg⟩:=h
 refine⟨fR,h2,h3,h4,h5,?_⟩
 rw[← hg]
 show lW _ _ _ (aC.drop (us+1)) _=lW _ _ _ (aC.drop us) _
 rw[Jw fR,← eV,R8 _ _ cH]
 unfold mE
 dsimp only
 rw[← hi,ah (S9 dY hd),l7]
theorem wF{W:AWorld}{aC:List (Int×Int×Unit)}{a0:W.A}{s s':W.S}{st:List Int}{dn:List Bool}{us i:Nat}{pw pd:Int}{pu:Unit}(h:vd W aC a0 (s,st,dn,us))(l7:∀a k,W.tell a k=a)(cH:dn.all id=false)(fR:us<aC.length)(eV:(pw,pd,pu)=aC[us])(hi:i=cb pw W.L.length)(dY:i<W.L.length){Vz:i<dn.length}(hd:dn[i]=false)(dN:W.abs s'=(W.step (W.abs s) i pd).1):
  vd W aC a0 (s',st.set i (wr (st.getD i 0+1)),dn.set i (W.step (W.abs s) i pd).2,us+1):=by
 obtain⟨h1,h2,h3,h4,h5,hg⟩:=h
 refine⟨fR,(cN ..).trans h2,(cN ..).trans h3,?_,?_,?_⟩
 ·intro k hk hm
  have:=h4 k hk hm
  show (dn.set i _)[k]?=some true
  rw[e8]
  split
  ·rename_i he
   subst he
   rw[bF Vz,hd]at this
   cases this
  ·exact this
 ·show W.free (W.abs s')
  rw[dN];exact W.keeps _ _ _ h5 dY
 ·rw[← hg]
  show lW _ _ _ (aC.drop (us+1)) _=lW _ _ _ (aC.drop us) _
  rw[Jw fR,← eV,R8 _ _ cH]
  unfold mE
  dsimp only
  rw[← hi,ag (by rw[S9 Vz hd];decide),l7,← dN]
theorem aft(W:AWorld)(lb:Nat)(aC:List (Int×Int×Unit))(s0:W.S)(σ:Hp)(hn:W.L.length≤100000)(hs:aC.length≤100000)(hf:W.free (W.abs s0))(l7:∀a k,W.tell a k=a):
  ACalls Tryz.prog 140 [W.mv,.ae lb 0 W.L.length 1,.af (.field (.int .i64) (.field (.int .i64) .nil)) aC,.iP] ((lb,W.L)::(W.B s0++σ)) (KW W aC (W.abs s0) [(lb,W.L)] σ):=by
 obtain⟨a0,pK⟩:∃a0,a0=W.abs s0:=⟨_,rfl⟩
 rw[← pK]
 obtain⟨z,nJ⟩:∃z,z=s0:=⟨_,rfl⟩
 subst nJ
 refine az Tryz.func140 ?_
 intro aG
 refine .meet (S:=Nat×Nat×Nat) (fun s=>[(0,W.mv),(1,.ae lb 0 W.L.length 1),(2,.af (.field (.int .i64) (.field (.int .i64) .nil)) aC),(3,.iP),(8,.ptr aG 0),(9,.ptr s.1 0)])
  (fun s=>(s.1,[.ae s.2.1 0 W.L.length 1,.ae s.2.2 0 W.L.length 1,.int .i64 0])::(s.2.1,cM [.int .i64 0] W.L.length)::(s.2.2,cM [.bool false] W.L.length)::(aG,[.aj,.aj,.int .i64 0])::(lb,W.L)::(W.B z++σ)) (by kernel_rfl) ?_ ?_
 ·repeat' first
   |exact cS.mk (_,_,_) ⟨rfl,rfl,rfl,rfl,rfl,rfl,trivial⟩ (aJ rfl)
   |exact cS.mk (_,_,_) ⟨rfl,rfl,rfl,rfl,rfl,rfl,trivial⟩ (.pull [2,2,1] (aJ rfl))
   |exact cS.mk (_,_,_) ⟨rfl,rfl,rfl,rfl,rfl,rfl,trivial⟩ (.pull [2,1,2] (aJ rfl))
   |exact cS.mk (_,_,_) ⟨rfl,rfl,rfl,rfl,rfl,rfl,trivial⟩ (.pull [2,2,0] (aJ rfl))
   |exact cS.mk (_,_,_) ⟨rfl,rfl,rfl,rfl,rfl,rfl,trivial⟩ (.pull [2,1,1] (aJ rfl))
   |exact cS.mk (_,_,_) ⟨rfl,rfl,rfl,rfl,rfl,rfl,trivial⟩ (.pull [2,1,0] (aJ rfl))
   |refine And.intro ?_ ?_
   |refine aZ ?_
   |refine ai 0 ?_
   |refine ai 1 ?_
   |refine ai 2 ?_
   |intro b
 rintro⟨br,ba,bd⟩ g
 refine ay [] (dK _ _ _) ?_
 obtain⟨us,gZ⟩:∃us:Nat,us=0:=⟨_,rfl⟩
 obtain⟨st,ao⟩:∃st,st=(List.replicate W.L.length 0:List Int):=⟨_,rfl⟩
 refine cc (S:=Nat) (fun s=>[(0,W.mv),(1,.ae lb 0 W.L.length 1),(2,.af (.field (.int .i64) (.field (.int .i64) .nil)) aC),(3,.iP),(8,.ptr aG 0),(9,.ptr br 0),(23,.ae lb 0 W.L.length 1),(24,.int .i64 W.L.length),(25,.int .i64 s)])
  (fun s=>(br,[.ae ba 0 W.L.length 1,.ae bd 0 W.L.length 1,.int .i64 us])::(ba,kC st)::(bd,jM (sL W.L s))::(aG,[.aj,.aj,.int .i64 0])::(lb,W.L)::(W.B z++σ)) (fun s=>s≤W.L.length) (fun s=>W.L.length-s) 0 ⟨bD _,⟨rfl,rfl,rfl,rfl,rfl,rfl,rfl,rfl,rfl,trivial⟩,by rw[aaQ,← abY,ao,← abX,gZ];rfl⟩ ?_
 intro k g hk
 have hk:k≤W.L.length:=hk
 refine aq (fun ab=>?_) (fun au=>?_)
 ·have ab:(k:Int)<W.L.length:=ab
  have ab:k<W.L.length:=by omega
  refine aM ?_
  rcases W.mach k ab with hm | ⟨t,r,hm,_⟩
  ·refine fE.mk 4 _ (AV.nilif) rfl (Az ab hm) ?_
   refine .sched [] (upto [] 7 0) (by kernel_rfl) ?_
   refine aa 0 ?_
   refine aM ?_
   refine da 2 rfl (sX _ (by rw[J5 _ _ hk];omega)) ?_
   refine bj (k+1) ?_ ab ⟨rfl,rfl,rfl,rfl,rfl,rfl,rfl,rfl,aY (by omega),trivial⟩ (aJ ?_)
   ·show W.L.length-(k+1)<W.L.length-k;omega
   ·rw[← Tn _ _ ab,hm];rfl
  ·refine fE.mk 4 _ (AV.iface t (.ptr r 0)) rfl (Az ab hm) ?_
   refine .sched [] (upto [] 7 0) (by kernel_rfl) ?_
   refine aa 0 ?_
   refine aM ?_
   refine da 2 rfl (sX _ (by rw[J5 _ _ hk];omega)) ?_
   refine bj (k+1) ?_ ab ⟨rfl,rfl,rfl,rfl,rfl,rfl,rfl,rfl,aY (by omega),trivial⟩ (aJ ?_)
   ·show W.L.length-(k+1)<W.L.length-k;omega
   ·rw[← Tn _ _ ab,hm];rfl
 ·have au:¬(k:Int)<W.L.length:=au
  obtain rfl:k=W.L.length:=by omega
  obtain⟨dn,oO⟩:∃dn,dn=sL W.L W.L.length:=⟨_,rfl⟩
  rw[← oO]
  have ee:dn.length=W.L.length:=by rw[oO];exact J5 _ _ (a8 _)
  have dg:st.length=W.L.length:=by rw[ao,fZ]
  have ri:∀i (h:i<W.L.length),W.L[i]=.nilif→dn[i]?=some true:=by
   intro i h hm
   rw[oO,To,fo,bF h,hm];rfl
  obtain⟨s,eD⟩:∃s,s=z:=⟨_,rfl⟩
  subst eD
  have hI:vd W aC a0 (s,st,dn,us):=by
   exact⟨by show us≤_;omega,dg,ee,ri,hf,by rw[gZ,oO,To,ao,pK];rfl⟩
  have ⟨gZ,dg,ee,ri,hf,NH⟩:=hI
  have gZ:us≤aC.length:=gZ
  have dg:st.length=W.L.length:=dg
  have ee:dn.length=W.L.length:=ee
  have hF:=fun σ=>HO (.ae ba 0 W.L.length 1) us bd dn σ (by omega)
  rw[ee]at hF
  refine aa 0 ?_
  refine aq (fun c1=>?_) (fun c1=>?_)
  ·have c1:(↑us:Int)=(↑aC.length:Int):=c1
   have hE:=wO hI (.inl (by show us=_;omega))
   refine aa 0 ?_
   refine ai 3 ?_
   refine aa 3 ?_
   refine .cJ 1 ba 0 W.L.length 1 _ (.int .i64) st rfl (wK dg) ⟨dg,rfl,by decide⟩ (nq .here (.refl _) (.refl _) rfl rfl rfl) ?_
   refine .cJ 1 bd 0 W.L.length 1 _ .bool dn rfl (wP ee) ⟨ee,rfl,by decide⟩ (nq (.refl _) .here (.refl _) rfl rfl rfl) ?_
   exact .drop 0 2 (.done ⟨s,by rw[hE],by rw[hE],rfl⟩)
  ·have c1:¬((↑us:Int)=(↑aC.length:Int)):=c1
   refine aa 0 ?_
   refine ay [2] (hF _) ?_
   cases cH:dn.all id with
   |true=>
    have hE:=wO hI (.inr cH)
    refine aa 1 ?_
    refine ai 3 ?_
    refine aa 3 ?_
    refine .cJ 2 ba 0 W.L.length 1 _ (.int .i64) st rfl (wK dg) ⟨dg,rfl,by decide⟩ (nq .here (.refl _) (.refl _) rfl rfl rfl) ?_
    refine .cJ 0 bd 0 W.L.length 1 _ .bool dn rfl (wP ee) ⟨ee,rfl,by decide⟩ (nq (.refl _) .here (.refl _) rfl rfl rfl) ?_
    exact .drop 0 2 (.done ⟨s,by rw[hE],by rw[hE],rfl⟩)
   |false=>
    refine aa 1 ?_
    refine aI.mk rfl ?_
    have fR:us<aC.length:=by omega
    have mc:AV.int .i64 (IntKind.i64.wrap ((us:Int)+1))=AV.int .i64 ((us+1:Nat):Int):=aY (by omega)
    obtain⟨pk,eV⟩:∃pk,pk=aC[us]:=⟨_,rfl⟩
    obtain⟨pw,pd,pu⟩:=pk
    have fY:0<W.L.length:=by
     rcases tW W.L.length with h0 | h0
     ·rw[jv.1 (ee.trans h0)]at cH;cases cH
     ·exact h0
    refine bL.mk (pw,pd,pu) (by omega) ((get_some fR).trans (congrArg some eV.symm)) ?_
    obtain⟨i,hi⟩:∃i,i=cb pw W.L.length:=⟨_,rfl⟩
    have dY:i<W.L.length:=by rw[hi];exact rN fY
    have sb:=fun σ=>td pw pd W.L.length σ (by omega)
    rw[← hi]at sb
    intro bp
    refine ai 0 ?_
    refine aa 0 ?_
    refine ay [] (sb _) ?_
    refine aa 2 ?_
    refine aM ?_
    cases hd:dn[i] with
    |true=>
     refine aT 1 rfl (sY (by omega) hd) ?_
     refine aa 2 ?_
     refine ai 2 ?_
     refine .loop (S:=W.S×List Int×List Bool×Nat) (fun _=>0) (fun _=>[(0,W.mv),(1,.ae lb 0 W.L.length 1),(2,.af (.field (.int .i64) (.field (.int .i64) .nil)) aC),(3,.iP),(8,.ptr aG 0),(9,.ptr br 0)]) (fun x=>(br,[.ae ba 0 W.L.length 1,.ae bd 0 W.L.length 1,.int .i64 x.2.2.2])::(ba,kC x.2.1)::(bd,jM x.2.2.1)::(aG,[.aj,.aj,.int .i64 0])::(lb,W.L)::(W.B x.1++σ)) (vd W aC a0) (fun x=>aC.length-x.2.2.2) (s,st,dn,us+1) ⟨rfl,(Gp hI l7 cH fR eV hi (by omega) hd),⟨rfl,rfl,rfl,rfl,rfl,rfl,trivial⟩,.drop 0 1 (.pull [2,2,0] (aJ ?_))⟩ ?_
     ·show _=(br,[AV.ae ba 0 W.L.length 1,AV.ae bd 0 W.L.length 1,AV.int .i64 ((us+1:Nat):Int)])::_
      rw[← mc]
      rfl
     rintro⟨s,st,dn,us⟩ g hI
     have ⟨gZ,dg,ee,ri,hf,NH⟩:=hI
     have gZ:us≤aC.length:=gZ
     have dg:st.length=W.L.length:=dg
     have ee:dn.length=W.L.length:=ee
     have hF:=fun σ=>HO (.ae ba 0 W.L.length 1) us bd dn σ (by omega)
     rw[ee]at hF
     refine aa 0 ?_
     refine aq (fun c1=>?_) (fun c1=>?_)
     ·have c1:(↑us:Int)=(↑aC.length:Int):=c1
      have hE:=wO hI (.inl (by show us=_;omega))
      refine aa 0 ?_
      refine ai 3 ?_
      refine aa 3 ?_
      refine .cJ 1 ba 0 W.L.length 1 _ (.int .i64) st rfl (wK dg) ⟨dg,rfl,by decide⟩ (nq .here (.refl _) (.refl _) rfl rfl rfl) ?_
      refine .cJ 1 bd 0 W.L.length 1 _ .bool dn rfl (wP ee) ⟨ee,rfl,by decide⟩ (nq (.refl _) .here (.refl _) rfl rfl rfl) ?_
      exact .drop 0 2 (.done ⟨s,by rw[hE],by rw[hE],rfl⟩)
     ·have c1:¬((↑us:Int)=(↑aC.length:Int)):=c1
      refine aa 0 ?_
      refine ay [2] (hF _) ?_
      cases cH:dn.all id with
      |true=>
       have hE:=wO hI (.inr cH)
       refine aa 1 ?_
       refine ai 3 ?_
       refine aa 3 ?_
       refine .cJ 2 ba 0 W.L.length 1 _ (.int .i64) st rfl (wK dg) ⟨dg,rfl,by decide⟩ (nq .here (.refl _) (.refl _) rfl rfl rfl) ?_
       refine .cJ 0 bd 0 W.L.length 1 _ .bool dn rfl (wP ee) ⟨ee,rfl,by decide⟩ (nq (.refl _) .here (.refl _) rfl rfl rfl) ?_
       exact .drop 0 2 (.done ⟨s,by rw[hE],by rw[hE],rfl⟩)
      |false=>
       refine aa 1 ?_
       refine aI.mk rfl ?_
       have fR:us<aC.length:=by omega
       have mc:AV.int .i64 (IntKind.i64.wrap ((us:Int)+1))=AV.int .i64 ((us+1:Nat):Int):=aY (by omega)
       obtain⟨pk,eV⟩:∃pk,pk=aC[us]:=⟨_,rfl⟩
       obtain⟨pw,pd,pu⟩:=pk
       have fY:0<W.L.length:=by
        rcases tW W.L.length with h0 | h0
        ·rw[jv.1 (ee.trans h0)]at cH;cases cH
        ·exact h0
       refine bL.mk (pw,pd,pu) (by omega) ((get_some fR).trans (congrArg some eV.symm)) ?_
       obtain⟨i,hi⟩:∃i,i=cb pw W.L.length:=⟨_,rfl⟩
       have dY:i<W.L.length:=by rw[hi];exact rN fY
       have sb:=fun σ=>td pw pd W.L.length σ (by omega)
       rw[← hi]at sb
       intro bp
       refine ai 0 ?_
       refine aa 0 ?_
       refine ay [] (sb _) ?_
       refine aa 2 ?_
       refine aM ?_
       cases hd:dn[i] with
       |true=>
        refine aT 1 rfl (sY (by omega) hd) ?_
        refine aa 2 ?_
        refine ai 2 ?_
        refine .mk (s,st,dn,us+1) rfl (by show aC.length-(us+1)<aC.length-us;omega) (Gp hI l7 cH fR eV hi (by omega) hd) ⟨rfl,rfl,rfl,rfl,rfl,rfl,trivial⟩ (.drop 0 1 (.pull [2,2,0] (aJ ?_)))
        show _=(br,[AV.ae ba 0 W.L.length 1,AV.ae bd 0 W.L.length 1,AV.int .i64 ((us+1:Nat):Int)])::_
        rw[← mc]
        rfl
       |false=>
        refine aT 1 rfl (sY (by omega) hd) ?_
        rcases W.mach i dY with hm | ⟨t,r,hm,gS,hMe,gR⟩
        ·have:=ri i dY hm
         rw[bF (by show i<dn.length;omega)]at this
         exact absurd (hd.symm.trans (Option.some.inj this)) (by decide)
        refine .sched [] (.one 0 false (.one 2 false (.one 3 false (.one 4 false (.one 5 false (.one 6 false (.one 7 false (.one 8 false (.one 9 false (.alt 1 (.one 10 false (.one 11 false (.one 12 false .stop))) (.one 10 false (.one 1 false (.one 11 false (.one 12 false .stop)))))))))))))) (by kernel_rfl) ?_
        refine aM ?_
        refine fE.mk 5 _ (AV.iface t (.ptr r 0)) rfl (Az dY hm) ?_
        refine aa 0 ?_
        refine And.intro ?_ ?_
        ·refine aa 2 ?_
         refine W.aStep [_,_,_,_,_,_] hMe gR hf fun s' dN=>?_
         refine aM ?_
         refine da 1 rfl (sX _ (by omega)) ?_
         refine aa 2 ?_
         refine aM ?_
         refine aT 3 rfl (wJ (by omega)) ?_
         refine aM ?_
         refine da 3 rfl (wI _ (by omega)) ?_
         refine aa 2 ?_
         refine ai 2 ?_
         refine .mk (s',(st.set i (wr (st.getD i 0+1))),(dn.set i (W.step (W.abs s) i pd).2),us+1) rfl (by show aC.length-(us+1)<aC.length-us;omega) (wF hI l7 cH fR eV hi dY hd dN) ⟨rfl,rfl,rfl,rfl,rfl,rfl,trivial⟩ (.drop 0 1 (.pull [2,2,0] (aJ ?_)))
         show _=(br,[AV.ae ba 0 W.L.length 1,AV.ae bd 0 W.L.length 1,AV.int .i64 ((us+1:Nat):Int)])::_
         rw[← mc]
         rfl
        ·refine W.aStep [_,_,_,_,_,_] hMe gR hf fun s' dN=>?_
         refine aa 2 ?_
         refine aM ?_
         refine da 1 rfl (sX _ (by omega)) ?_
         refine aa 2 ?_
         refine aM ?_
         refine aT 3 rfl (wJ (by omega)) ?_
         refine aM ?_
         refine da 3 rfl (wI _ (by omega)) ?_
         refine aa 2 ?_
         refine ai 2 ?_
         refine .mk (s',(st.set i (wr (st.getD i 0+1))),(dn.set i (W.step (W.abs s) i pd).2),us+1) rfl (by show aC.length-(us+1)<aC.length-us;omega) (wF hI l7 cH fR eV hi dY hd dN) ⟨rfl,rfl,rfl,rfl,rfl,rfl,trivial⟩ (.drop 0 1 (.pull [2,2,0] (aJ ?_)))
         show _=(br,[AV.ae ba 0 W.L.length 1,AV.ae bd 0 W.L.length 1,AV.int .i64 ((us+1:Nat):Int)])::_
         rw[← mc]
         rfl
    |false=>
     refine aT 1 rfl (sY (by omega) hd) ?_
     rcases W.mach i dY with hm | ⟨t,r,hm,gS,hMe,gR⟩
     ·have:=ri i dY hm
      rw[bF (by show i<dn.length;omega)]at this
      exact absurd (hd.symm.trans (Option.some.inj this)) (by decide)
     refine .sched [] (.one 0 false (.one 2 false (.one 3 false (.one 4 false (.one 5 false (.one 6 false (.one 7 false (.one 8 false (.one 9 false (.alt 1 (.one 10 false (.one 11 false (.one 12 false .stop))) (.one 10 false (.one 1 false (.one 11 false (.one 12 false .stop)))))))))))))) (by kernel_rfl) ?_
     refine aM ?_
     refine fE.mk 5 _ (AV.iface t (.ptr r 0)) rfl (Az dY hm) ?_
     refine aa 0 ?_
     refine And.intro ?_ ?_
     ·refine aa 2 ?_
      refine W.aStep [_,_,_,_,_,_] hMe gR hf fun s' dN=>?_
      refine aM ?_
      refine da 1 rfl (sX _ (by omega)) ?_
      refine aa 2 ?_
      refine aM ?_
      refine aT 3 rfl (wJ (by omega)) ?_
      refine aM ?_
      refine da 3 rfl (wI _ (by omega)) ?_
      refine aa 2 ?_
      refine ai 2 ?_
      refine .loop (S:=W.S×List Int×List Bool×Nat) (fun _=>0) (fun _=>[(0,W.mv),(1,.ae lb 0 W.L.length 1),(2,.af (.field (.int .i64) (.field (.int .i64) .nil)) aC),(3,.iP),(8,.ptr aG 0),(9,.ptr br 0)]) (fun x=>(br,[.ae ba 0 W.L.length 1,.ae bd 0 W.L.length 1,.int .i64 x.2.2.2])::(ba,kC x.2.1)::(bd,jM x.2.2.1)::(aG,[.aj,.aj,.int .i64 0])::(lb,W.L)::(W.B x.1++σ)) (vd W aC a0) (fun x=>aC.length-x.2.2.2) (s',(st.set i (wr (st.getD i 0+1))),(dn.set i (W.step (W.abs s) i pd).2),us+1) ⟨rfl,(wF hI l7 cH fR eV hi dY hd dN),⟨rfl,rfl,rfl,rfl,rfl,rfl,trivial⟩,.drop 0 1 (.pull [2,2,0] (aJ ?_))⟩ ?_
      ·show _=(br,[AV.ae ba 0 W.L.length 1,AV.ae bd 0 W.L.length 1,AV.int .i64 ((us+1:Nat):Int)])::_
       rw[← mc]
       rfl
      rintro⟨s,st,dn,us⟩ g hI
      have ⟨gZ,dg,ee,ri,hf,NH⟩:=hI
      have gZ:us≤aC.length:=gZ
      have dg:st.length=W.L.length:=dg
      have ee:dn.length=W.L.length:=ee
      have hF:=fun σ=>HO (.ae ba 0 W.L.length 1) us bd dn σ (by omega)
      rw[ee]at hF
      refine aa 0 ?_
      refine aq (fun c1=>?_) (fun c1=>?_)
      ·have c1:(↑us:Int)=(↑aC.length:Int):=c1
       have hE:=wO hI (.inl (by show us=_;omega))
       refine aa 0 ?_
       refine ai 3 ?_
       refine aa 3 ?_
       refine .cJ 1 ba 0 W.L.length 1 _ (.int .i64) st rfl (wK dg) ⟨dg,rfl,by decide⟩ (nq .here (.refl _) (.refl _) rfl rfl rfl) ?_
       refine .cJ 1 bd 0 W.L.length 1 _ .bool dn rfl (wP ee) ⟨ee,rfl,by decide⟩ (nq (.refl _) .here (.refl _) rfl rfl rfl) ?_
       exact .drop 0 2 (.done ⟨s,by rw[hE],by rw[hE],rfl⟩)
      ·have c1:¬((↑us:Int)=(↑aC.length:Int)):=c1
       refine aa 0 ?_
       refine ay [2] (hF _) ?_
       cases cH:dn.all id with
       |true=>
        have hE:=wO hI (.inr cH)
        refine aa 1 ?_
        refine ai 3 ?_
        refine aa 3 ?_
        refine .cJ 2 ba 0 W.L.length 1 _ (.int .i64) st rfl (wK dg) ⟨dg,rfl,by decide⟩ (nq .here (.refl _) (.refl _) rfl rfl rfl) ?_
        refine .cJ 0 bd 0 W.L.length 1 _ .bool dn rfl (wP ee) ⟨ee,rfl,by decide⟩ (nq (.refl _) .here (.refl _) rfl rfl rfl) ?_
        exact .drop 0 2 (.done ⟨s,by rw[hE],by rw[hE],rfl⟩)
       |false=>
        refine aa 1 ?_
        refine aI.mk rfl ?_
        have fR:us<aC.length:=by omega
        have mc:AV.int .i64 (IntKind.i64.wrap ((us:Int)+1))=AV.int .i64 ((us+1:Nat):Int):=aY (by omega)
        obtain⟨pk,eV⟩:∃pk,pk=aC[us]:=⟨_,rfl⟩
        obtain⟨pw,pd,pu⟩:=pk
        have fY:0<W.L.length:=by
         rcases tW W.L.length with h0 | h0
         ·rw[jv.1 (ee.trans h0)]at cH;cases cH
         ·exact h0
        refine bL.mk (pw,pd,pu) (by omega) ((get_some fR).trans (congrArg some eV.symm)) ?_
        obtain⟨i,hi⟩:∃i,i=cb pw W.L.length:=⟨_,rfl⟩
        have dY:i<W.L.length:=by rw[hi];exact rN fY
        have sb:=fun σ=>td pw pd W.L.length σ (by omega)
        rw[← hi]at sb
        intro bp
        refine ai 0 ?_
        refine aa 0 ?_
        refine ay [] (sb _) ?_
        refine aa 2 ?_
        refine aM ?_
        cases hd:dn[i] with
        |true=>
         refine aT 1 rfl (sY (by omega) hd) ?_
         refine aa 2 ?_
         refine ai 2 ?_
         refine .mk (s,st,dn,us+1) rfl (by show aC.length-(us+1)<aC.length-us;omega) (Gp hI l7 cH fR eV hi (by omega) hd) ⟨rfl,rfl,rfl,rfl,rfl,rfl,trivial⟩ (.drop 0 1 (.pull [2,2,0] (aJ ?_)))
         show _=(br,[AV.ae ba 0 W.L.length 1,AV.ae bd 0 W.L.length 1,AV.int .i64 ((us+1:Nat):Int)])::_
         rw[← mc]
         rfl
        |false=>
         refine aT 1 rfl (sY (by omega) hd) ?_
         rcases W.mach i dY with hm | ⟨t,r,hm,gS,hMe,gR⟩
         ·have:=ri i dY hm
          rw[bF (by show i<dn.length;omega)]at this
          exact absurd (hd.symm.trans (Option.some.inj this)) (by decide)
         refine .sched [] (.one 0 false (.one 2 false (.one 3 false (.one 4 false (.one 5 false (.one 6 false (.one 7 false (.one 8 false (.one 9 false (.alt 1 (.one 10 false (.one 11 false (.one 12 false .stop))) (.one 10 false (.one 1 false (.one 11 false (.one 12 false .stop)))))))))))))) (by kernel_rfl) ?_
         refine aM ?_
         refine fE.mk 5 _ (AV.iface t (.ptr r 0)) rfl (Az dY hm) ?_
         refine aa 0 ?_
         refine And.intro ?_ ?_
         ·refine aa 2 ?_
          refine W.aStep [_,_,_,_,_,_] hMe gR hf fun s' dN=>?_
          refine aM ?_
          refine da 1 rfl (sX _ (by omega)) ?_
          refine aa 2 ?_
          refine aM ?_
          refine aT 3 rfl (wJ (by omega)) ?_
          refine aM ?_
          refine da 3 rfl (wI _ (by omega)) ?_
          refine aa 2 ?_
          refine ai 2 ?_
          refine .mk (s',(st.set i (wr (st.getD i 0+1))),(dn.set i (W.step (W.abs s) i pd).2),us+1) rfl (by show aC.length-(us+1)<aC.length-us;omega) (wF hI l7 cH fR eV hi dY hd dN) ⟨rfl,rfl,rfl,rfl,rfl,rfl,trivial⟩ (.drop 0 1 (.pull [2,2,0] (aJ ?_)))
          show _=(br,[AV.ae ba 0 W.L.length 1,AV.ae bd 0 W.L.length 1,AV.int .i64 ((us+1:Nat):Int)])::_
          rw[← mc]
          rfl
         ·refine W.aStep [_,_,_,_,_,_] hMe gR hf fun s' dN=>?_
          refine aa 2 ?_
          refine aM ?_
          refine da 1 rfl (sX _ (by omega)) ?_
          refine aa 2 ?_
          refine aM ?_
          refine aT 3 rfl (wJ (by omega)) ?_
          refine aM ?_
          refine da 3 rfl (wI _ (by omega)) ?_
          refine aa 2 ?_
          refine ai 2 ?_
          refine .mk (s',(st.set i (wr (st.getD i 0+1))),(dn.set i (W.step (W.abs s) i pd).2),us+1) rfl (by show aC.length-(us+1)<aC.length-us;omega) (wF hI l7 cH fR eV hi dY hd dN) ⟨rfl,rfl,rfl,rfl,rfl,rfl,trivial⟩ (.drop 0 1 (.pull [2,2,0] (aJ ?_)))
          show _=(br,[AV.ae ba 0 W.L.length 1,AV.ae bd 0 W.L.length 1,AV.int .i64 ((us+1:Nat):Int)])::_
          rw[← mc]
          rfl
     ·refine W.aStep [_,_,_,_,_,_] hMe gR hf fun s' dN=>?_
      refine aa 2 ?_
      refine aM ?_
      refine da 1 rfl (sX _ (by omega)) ?_
      refine aa 2 ?_
      refine aM ?_
      refine aT 3 rfl (wJ (by omega)) ?_
      refine aM ?_
      refine da 3 rfl (wI _ (by omega)) ?_
      refine aa 2 ?_
      refine ai 2 ?_
      refine .loop (S:=W.S×List Int×List Bool×Nat) (fun _=>0) (fun _=>[(0,W.mv),(1,.ae lb 0 W.L.length 1),(2,.af (.field (.int .i64) (.field (.int .i64) .nil)) aC),(3,.iP),(8,.ptr aG 0),(9,.ptr br 0)]) (fun x=>(br,[.ae ba 0 W.L.length 1,.ae bd 0 W.L.length 1,.int .i64 x.2.2.2])::(ba,kC x.2.1)::(bd,jM x.2.2.1)::(aG,[.aj,.aj,.int .i64 0])::(lb,W.L)::(W.B x.1++σ)) (vd W aC a0) (fun x=>aC.length-x.2.2.2) (s',(st.set i (wr (st.getD i 0+1))),(dn.set i (W.step (W.abs s) i pd).2),us+1) ⟨rfl,(wF hI l7 cH fR eV hi dY hd dN),⟨rfl,rfl,rfl,rfl,rfl,rfl,trivial⟩,.drop 0 1 (.pull [2,2,0] (aJ ?_))⟩ ?_
      ·show _=(br,[AV.ae ba 0 W.L.length 1,AV.ae bd 0 W.L.length 1,AV.int .i64 ((us+1:Nat):Int)])::_
       rw[← mc]
       rfl
      rintro⟨s,st,dn,us⟩ g hI
      have ⟨gZ,dg,ee,ri,hf,NH⟩:=hI
      have gZ:us≤aC.length:=gZ
      have dg:st.length=W.L.length:=dg
      have ee:dn.length=W.L.length:=ee
      have hF:=fun σ=>HO (.ae ba 0 W.L.length 1) us bd dn σ (by omega)
      rw[ee]at hF
      refine aa 0 ?_
      refine aq (fun c1=>?_) (fun c1=>?_)
      ·have c1:(↑us:Int)=(↑aC.length:Int):=c1
       have hE:=wO hI (.inl (by show us=_;omega))
       refine aa 0 ?_
       refine ai 3 ?_
       refine aa 3 ?_
       refine .cJ 1 ba 0 W.L.length 1 _ (.int .i64) st rfl (wK dg) ⟨dg,rfl,by decide⟩ (nq .here (.refl _) (.refl _) rfl rfl rfl) ?_
       refine .cJ 1 bd 0 W.L.length 1 _ .bool dn rfl (wP ee) ⟨ee,rfl,by decide⟩ (nq (.refl _) .here (.refl _) rfl rfl rfl) ?_
       exact .drop 0 2 (.done ⟨s,by rw[hE],by rw[hE],rfl⟩)
      ·have c1:¬((↑us:Int)=(↑aC.length:Int)):=c1
       refine aa 0 ?_
       refine ay [2] (hF _) ?_
       cases cH:dn.all id with
       |true=>
        have hE:=wO hI (.inr cH)
        refine aa 1 ?_
        refine ai 3 ?_
        refine aa 3 ?_
        refine .cJ 2 ba 0 W.L.length 1 _ (.int .i64) st rfl (wK dg) ⟨dg,rfl,by decide⟩ (nq .here (.refl _) (.refl _) rfl rfl rfl) ?_
        refine .cJ 0 bd 0 W.L.length 1 _ .bool dn rfl (wP ee) ⟨ee,rfl,by decide⟩ (nq (.refl _) .here (.refl _) rfl rfl rfl) ?_
        exact .drop 0 2 (.done ⟨s,by rw[hE],by rw[hE],rfl⟩)
       |false=>
        refine aa 1 ?_
        refine aI.mk rfl ?_
        have fR:us<aC.length:=by omega
        have mc:AV.int .i64 (IntKind.i64.wrap ((us:Int)+1))=AV.int .i64 ((us+1:Nat):Int):=aY (by omega)
        obtain⟨pk,eV⟩:∃pk,pk=aC[us]:=⟨_,rfl⟩
        obtain⟨pw,pd,pu⟩:=pk
        have fY:0<W.L.length:=by
         rcases tW W.L.length with h0 | h0
         ·rw[jv.1 (ee.trans h0)]at cH;cases cH
         ·exact h0
        refine bL.mk (pw,pd,pu) (by omega) ((get_some fR).trans (congrArg some eV.symm)) ?_
        obtain⟨i,hi⟩:∃i,i=cb pw W.L.length:=⟨_,rfl⟩
        have dY:i<W.L.length:=by rw[hi];exact rN fY
        have sb:=fun σ=>td pw pd W.L.length σ (by omega)
        rw[← hi]at sb
        intro bp
        refine ai 0 ?_
        refine aa 0 ?_
        refine ay [] (sb _) ?_
        refine aa 2 ?_
        refine aM ?_
        cases hd:dn[i] with
        |true=>
         refine aT 1 rfl (sY (by omega) hd) ?_
         refine aa 2 ?_
         refine ai 2 ?_
         refine .mk (s,st,dn,us+1) rfl (by show aC.length-(us+1)<aC.length-us;omega) (Gp hI l7 cH fR eV hi (by omega) hd) ⟨rfl,rfl,rfl,rfl,rfl,rfl,trivial⟩ (.drop 0 1 (.pull [2,2,0] (aJ ?_)))
         show _=(br,[AV.ae ba 0 W.L.length 1,AV.ae bd 0 W.L.length 1,AV.int .i64 ((us+1:Nat):Int)])::_
         rw[← mc]
         rfl
        |false=>
         refine aT 1 rfl (sY (by omega) hd) ?_
         rcases W.mach i dY with hm | ⟨t,r,hm,gS,hMe,gR⟩
         ·have:=ri i dY hm
          rw[bF (by show i<dn.length;omega)]at this
          exact absurd (hd.symm.trans (Option.some.inj this)) (by decide)
         refine .sched [] (.one 0 false (.one 2 false (.one 3 false (.one 4 false (.one 5 false (.one 6 false (.one 7 false (.one 8 false (.one 9 false (.alt 1 (.one 10 false (.one 11 false (.one 12 false .stop))) (.one 10 false (.one 1 false (.one 11 false (.one 12 false .stop)))))))))))))) (by kernel_rfl) ?_
         refine aM ?_
         refine fE.mk 5 _ (AV.iface t (.ptr r 0)) rfl (Az dY hm) ?_
         refine aa 0 ?_
         refine And.intro ?_ ?_
         ·refine aa 2 ?_
          refine W.aStep [_,_,_,_,_,_] hMe gR hf fun s' dN=>?_
          refine aM ?_
          refine da 1 rfl (sX _ (by omega)) ?_
          refine aa 2 ?_
          refine aM ?_
          refine aT 3 rfl (wJ (by omega)) ?_
          refine aM ?_
          refine da 3 rfl (wI _ (by omega)) ?_
          refine aa 2 ?_
          refine ai 2 ?_
          refine .mk (s',(st.set i (wr (st.getD i 0+1))),(dn.set i (W.step (W.abs s) i pd).2),us+1) rfl (by show aC.length-(us+1)<aC.length-us;omega) (wF hI l7 cH fR eV hi dY hd dN) ⟨rfl,rfl,rfl,rfl,rfl,rfl,trivial⟩ (.drop 0 1 (.pull [2,2,0] (aJ ?_)))
          show _=(br,[AV.ae ba 0 W.L.length 1,AV.ae bd 0 W.L.length 1,AV.int .i64 ((us+1:Nat):Int)])::_
          rw[← mc]
          rfl
         ·refine W.aStep [_,_,_,_,_,_] hMe gR hf fun s' dN=>?_
          refine aa 2 ?_
          refine aM ?_
          refine da 1 rfl (sX _ (by omega)) ?_
          refine aa 2 ?_
          refine aM ?_
          refine aT 3 rfl (wJ (by omega)) ?_
          refine aM ?_
          refine da 3 rfl (wI _ (by omega)) ?_
          refine aa 2 ?_
          refine ai 2 ?_
          refine .mk (s',(st.set i (wr (st.getD i 0+1))),(dn.set i (W.step (W.abs s) i pd).2),us+1) rfl (by show aC.length-(us+1)<aC.length-us;omega) (wF hI l7 cH fR eV hi dY hd dN) ⟨rfl,rfl,rfl,rfl,rfl,rfl,trivial⟩ (.drop 0 1 (.pull [2,2,0] (aJ ?_)))
          show _=(br,[AV.ae ba 0 W.L.length 1,AV.ae bd 0 W.L.length 1,AV.int .i64 ((us+1:Nat):Int)])::_
          rw[← mc]
          rfl
end Go.Proofs.YtnikdflhefijbaaGreat
