import Derived.Test.YtnikdflhefijbaaGreatBn5
namespace Go.Proofs.YtnikdflhefijbaaGreat
open Go.RowKit
def xS(ws:List Int)(a:Int):Bool:=decide (0≤a)&&decide (a<ws.length)
def cc(ws:List Int)(a:Int):Int:=if a<0 then 0 else ws.getD a.toNat 0
def iv(ws:List Int)(a x:Int):List Int:=if a<0 then ws else ws.set a.toNat x
def rY(n:Int):Nat:=(min (max n 0) 1048576).toNat
theorem aeL(n:Int):rY n≤1048576:=by unfold rY;omega
theorem C6{ws:List Int}{a:Int}(h:0≤a)(h1:a<ws.length):xS ws a=true:=by simp[xS,h,h1]
theorem Hl(a n:Int)(h:0≤a)(h1:a<n):(decide (0≤a)&&decide (a<n))=true:=by simp[h,h1]
theorem G2(a n:Int)(h:¬(0≤a∧a<n)):(decide (0≤a)&&decide (a<n))=false:=by simp;omega
theorem lK{ws:List Int}{a:Nat}:cc ws (a:Int)=ws.getD a 0:=by
 unfold cc;rw[ag (by omega)];rfl
theorem aak{ws:List Int}{a:Int}(h:¬(0≤a∧a<(ws.length:Int))):cc ws a=0:=by
 unfold cc
 split
 ·rfl
 ·rw[List.getD,uN (by omega)];rfl
theorem lJ{ws:List Int}{a:Nat}(x:Int):iv ws (a:Int) x=ws.set a x:=by
 unfold iv;rw[ag (by omega)];rfl
theorem YW{ws:List Int}{a x:Int}(h:¬(0≤a∧a<(ws.length:Int))):iv ws a x=ws:=by
 unfold iv
 split
 ·rfl
 ·exact List.set_eq_of_length_le (by omega)
theorem Ay(ws:List Int)(a x:Int):(iv ws a x).length=ws.length:=by unfold iv;split <;> simp
def nL(ws:List Int)(a old:Int):Bool:=xS ws a&&(cc ws a == old)
def je(ws:List Int)(a old to:Int):List Int:=if nL ws a old then iv ws a to else ws
theorem wY(ws:List Int)(a o t:Int):(je ws a o t).length=ws.length:=by unfold je;split <;> simp[Ay]
def EG(ws:List Int)(a d:Int):Int:=if xS ws a then (cc ws a+d) % 18446744073709551616 else 0
def ns(ws:List Int)(a d:Int):List Int:=if xS ws a then iv ws a ((cc ws a+d) % 18446744073709551616) else ws
theorem Qa(ws:List Int)(a d:Int):(ns ws a d).length=ws.length:=by unfold ns;split <;> simp[Ay]
def uo(q n:Nat):List AV:=[.int .i64 n,.af q 0 n 1]
theorem Hv{ws:List Int}{k:Nat}(h:k<ws.length):(aP ws)[0+((k:Int)).toNat*1]?=some (.int .u64 (ws.getD k 0)):=by
 simp[aP,h,List.getD]
theorem adu{ws:List Int}{k:Nat}(x:Int):(aP ws).set k (.int .u64 x)=aP (ws.set k x):=by simp[aP,List.map_set]
theorem Mg{ws:List Int}{k:Nat}(x:Int)(h:k<ws.length):kX ⟨.int .u64,1,8,[.int .u64 0]⟩ (aP ws) (0+((k:Int)).toNat*1) (.int .u64 x)=some (aP (ws.set k x)):=by
 have e:0+((k:Int)).toNat*1=k:=by omega
 have h2:Nat.ble (k+1) (aP ws).length=true:=Nat.ble_eq_true_of_le (by simp[aP];omega)
 rw[e]
 show (match Nat.beq 1 1,Nat.ble (k+1) (aP ws).length with | true,true=>some (fV (aP ws) k [.int .u64 x]) | _,_=>none)=_
 rw[h2]
 show some ((aP ws).set k (.int .u64 x))=_
 rw[adu]
set_option maxRecDepth 100000
theorem Jt(n a:Int)(σ:Hp):ACalls Tryz.prog 387 [.agg [.int .i64 n],.int .i64 a] σ (ay (.bool (decide (0≤a)&&decide (a<n))) σ):=by
 refine ar Tryz.func387 ?_
 intro b
 refine ak (fun h=>?_) (fun h=>?_)
 ·refine aa 0 ?_
  refine ak (fun h2=>?_) (fun h2=>?_)
  ·exact .drop 0 1 (.done ⟨cy (by simp[h,h2]),rfl⟩)
  ·exact .drop 0 1 (.done ⟨cy (by simp[h2]),rfl⟩)
 ·exact .drop 0 1 (.done ⟨cy (by simp[h]),rfl⟩)
theorem Xt(n:Int)(σ:Hp):ACalls Tryz.prog 155 [.int .i64 n] σ (ay (.agg [.int .i64 (rY n)]) σ):=by
 refine ar Tryz.func155 ?_
 intro b
 refine aj 0 ?_
 refine aa 0 ?_
 refine .drop 0 1 (.done ⟨?_,rfl⟩)
 show AV.agg [.int .i64 (if (1048576:Int)<(if n<0 then 0 else n) then 1048576 else (if n<0 then 0 else n))]=_
 have e:(if (1048576:Int)<(if n<0 then 0 else n) then 1048576 else (if n<0 then 0 else n))=((rY n:Nat):Int):=by
  unfold rY
  by_cases h:n<0
  ·simp only[ah h];omega
  ·simp only[ag h];split <;> omega
 rw[e]
theorem aiR(n:Int)(σ:Hp):ACalls Tryz.prog 90 [.int .i64 n] σ (fun r σ'=>∃p q,r=.ptr p 0∧σ'=(p,uo q (rY n))::(q,aP (List.replicate (rY n) 0))::σ):=by
 have hc:=aeL n
 refine ar Tryz.func90 ?_
 refine aw [] (Xt n σ) ?_
 refine aw [] (Xt n σ) ?_
 refine aG.mk ⟨by omega,jL _,by omega,by decide⟩ ?_
 intro q p
 refine .done ⟨p,q,rfl,?_⟩
 show (p,_)::(q,_)::σ=_
 rw[show ((rY n:Int)).toNat=rY n by omega,show (cD [AV.int .u64 0] (rY n))=_ from xv _]
 rfl
theorem aLoad(p q:Nat)(ws:List Int)(a:Int)(σ:Hp):ACalls Tryz.prog 385 [.ptr p 0,.int .i64 a] ((p,uo q ws.length)::(q,aP ws)::σ) (ay (.int .u64 (cc ws a)) ((p,uo q ws.length)::(q,aP ws)::σ)):=by
 refine ar Tryz.func385 ?_
 refine aa 0 ?_
 refine aw [] (Jt ws.length a _) ?_
 by_cases hh:0≤a∧a<(ws.length:Int)
 ·rw[Hl a ws.length hh.1 hh.2]
  obtain⟨k,rfl⟩:=mH hh.1
  have hk:k<ws.length:=by omega
  refine aa 0 ?_
  refine aG.mk ⟨rfl,hh.1,hh.2⟩ ?_
  refine bf 1 rfl (Hv hk) ?_
  exact .done ⟨aQ lK.symm,rfl⟩
 ·rw[G2 a ws.length hh]
  exact .done ⟨aQ (aak hh).symm,rfl⟩
abbrev bM(p q:Nat)(ws:List Int)(σ:Hp):Hp:=(p,uo q ws.length)::(q,aP ws)::σ
theorem aStore(p q:Nat)(ws:List Int)(a x:Int)(σ:Hp):ACalls Tryz.prog 386 [.ptr p 0,.int .i64 a,.int .u64 x] (bM p q ws σ) (ay (.tup []) (bM p q (iv ws a x) σ)):=by
 refine ar Tryz.func386 ?_
 refine aa 0 ?_
 refine aw [] (Jt ws.length a _) ?_
 by_cases hh:0≤a∧a<(ws.length:Int)
 ·rw[Hl a ws.length hh.1 hh.2]
  obtain⟨k,rfl⟩:=mH hh.1
  have hk:k<ws.length:=by omega
  refine aa 0 ?_
  refine aG.mk ⟨rfl,hh.1,hh.2⟩ ?_
  refine cT 1 rfl (Mg x hk) ?_
  refine .done ⟨rfl,?_⟩
  show (p,uo q ws.length)::(q,aP (ws.set k x))::σ=_
  rw[lJ];unfold bM;rw[cR]
 ·rw[G2 a ws.length hh]
  refine .done ⟨rfl,?_⟩
  rw[YW hh];rfl
theorem aCas(p q:Nat)(ws:List Int)(a x y:Int)(σ:Hp):ACalls Tryz.prog 383 [.ptr p 0,.int .i64 a,.int .u64 x,.int .u64 y] (bM p q ws σ) (ay (.bool (nL ws a x)) (bM p q (je ws a x y) σ)):=by
 refine ar Tryz.func383 ?_
 refine aa 0 ?_
 refine aw [] (Jt ws.length a _) ?_
 by_cases hh:0≤a∧a<(ws.length:Int)
 ·rw[Hl a ws.length hh.1 hh.2]
  have hH:=C6 hh.1 hh.2
  obtain⟨k,rfl⟩:=mH hh.1
  have hk:k<ws.length:=by omega
  refine aa 0 ?_
  refine aG.mk ⟨rfl,hh.1,hh.2⟩ ?_
  refine bf 1 rfl (Hv hk) ?_
  refine cX (fun he=>?_) (fun he=>?_)
  ·have he:¬ws.getD k 0=x:=by simpa using he
   have e1:nL ws k x=false:=by unfold nL;rw[hH,lK];simpa using he
   refine .done ⟨by rw[e1];rfl,?_⟩
   rw[show je ws k x y=ws by simp[je,e1]];rfl
  ·have he:ws.getD k 0=x:=by simpa using he
   have e1:nL ws k x=true:=by unfold nL;rw[hH,lK,he];simp
   refine aa 0 ?_
   refine aG.mk ⟨rfl,hh.1,hh.2⟩ ?_
   refine cT 1 rfl (Mg y hk) ?_
   refine .done ⟨by rw[e1];rfl,?_⟩
   show (p,uo q ws.length)::(q,aP (ws.set k y))::σ=_
   rw[show je ws k x y=ws.set k y by simp[je,e1,lJ]];unfold bM;rw[List.length_set]
 ·have hb:=G2 a ws.length hh
  rw[hb]
  have e1:nL ws a x=false:=by simp only[nL,xS,hb,Ke]
  refine .done ⟨by rw[e1];rfl,?_⟩
  rw[show je ws a x y=ws by simp[je,e1]];rfl
theorem aAdd(p q:Nat)(ws:List Int)(a d:Int)(σ:Hp):ACalls Tryz.prog 382 [.ptr p 0,.int .i64 a,.int .u64 d] (bM p q ws σ) (ay (.int .u64 (EG ws a d)) (bM p q (ns ws a d) σ)):=by
 refine ar Tryz.func382 ?_
 refine aa 0 ?_
 refine aw [] (Jt ws.length a _) ?_
 by_cases hh:0≤a∧a<(ws.length:Int)
 ·rw[Hl a ws.length hh.1 hh.2]
  have hH:=C6 hh.1 hh.2
  obtain⟨k,rfl⟩:=mH hh.1
  have hk:k<ws.length:=by omega
  have e1:EG ws k d=IntKind.u64.wrap (ws.getD k 0+d):=by rw[IntKind.wrap_u64];simp only[EG,hH,if_true,lK]
  have e2:ns ws k d=ws.set k (IntKind.u64.wrap (ws.getD k 0+d)):=by rw[IntKind.wrap_u64];simp only[ns,hH,if_true,lK,lJ]
  refine aa 0 ?_
  refine aG.mk ⟨rfl,hh.1,hh.2⟩ ?_
  refine bf 1 rfl (Hv hk) ?_
  refine aG.mk ⟨rfl,hh.1,hh.2⟩ ?_
  refine cT 1 rfl (Mg _ hk) ?_
  refine aa 0 ?_
  refine aG.mk ⟨rfl,hh.1,hh.2⟩ ?_
  refine bf 1 rfl (Hv (ws:=ws.set k (IntKind.u64.wrap (ws.getD k 0+d))) (by rw[cR];exact hk)) ?_
  refine .done ⟨aQ (by rw[e1];simp[List.getD,hk]),?_⟩
  rw[e2];unfold bM;rw[cR];rfl
 ·have hb:=G2 a ws.length hh
  rw[hb]
  refine .done ⟨aQ (by unfold EG;unfold xS;rw[hb];rfl),?_⟩
  rw[show ns ws a d=ws by unfold ns xS;rw[hb];rfl];rfl
theorem Xp(p q:Nat)(ws:List Int)(σ:Hp):ACalls Tryz.prog 384 [.ptr p 0] (bM p q ws σ) (ay (.int .i64 ws.length) (bM p q ws σ)):=by
 refine ar Tryz.func384 ?_
 refine aa 0 ?_
 exact .done ⟨rfl,rfl⟩
theorem mLen_ : Meth Tryz.prog 94 "Len" 384 := fun a w => by kernel_rfl
theorem mLoad_ : Meth Tryz.prog 94 "Load" 385 := fun a w => by kernel_rfl
theorem mStore_ : Meth Tryz.prog 94 "Store" 386 := fun a w => by kernel_rfl
theorem mCAS_ : Meth Tryz.prog 94 "CAS" 383 := fun a w => by kernel_rfl
theorem mAdd_ : Meth Tryz.prog 94 "Add" 382 := fun a w => by kernel_rfl
theorem hStore_ : AheadOk Tryz.prog 94 "Store" := fun a w => by kernel_rfl
theorem hCAS_ : AheadOk Tryz.prog 94 "CAS" := fun a w => by kernel_rfl
theorem hAdd_ : AheadOk Tryz.prog 94 "Add" := fun a w => by kernel_rfl
theorem hLoad_ : AheadOk Tryz.prog 94 "Load" := fun a w => by kernel_rfl
abbrev kK(p:Nat):AV:=.iface 94 (.ptr p 0)
theorem dG(t:Nat)(x:AV)(σ:Hp):ACalls Tryz.prog 110 [.iface t x] σ (ay (.iface t x) σ):=by
 refine ar Tryz.func110 ?_
 exact .done ⟨rfl,rfl⟩
structure km where
 A:Type
 ld:A→Int→Int×A
 st:A→Int→Int→A
 cs:A→Int→Int→Int→Bool×A
 ad:A→Int→Int→Int×A
 ln:A→Int
 free:A→Prop
abbrev bJ:km where
 A:=List Int
 ld ws a:=(cc ws a,ws)
 st ws a x:=iv ws a x
 cs ws a x y:=(nL ws a x,je ws a x y)
 ad ws a d:=(EG ws a d,ns ws a d)
 ln ws:=ws.length
 free _:=True
structure AMem where
 O:km
 S:Type
 abs:S→O.A
 B:S→Hp
 t:TypeId
 p:Nat
 load : ∃ g, Meth Tryz.prog t "Load" g ∧ ∀ (s : S) (a : Int) (σ : Hp), O.free (abs s) → ACalls Tryz.prog g [.ptr p 0, .int .i64 a] (B s ++ σ) (fun r σ' => ∃ s', abs s' = (O.ld (abs s) a).2 ∧ r = .int .u64 (O.ld (abs s) a).1 ∧ σ' = B s' ++ σ)
 store : ∃ g, Meth Tryz.prog t "Store" g ∧ ∀ (s : S) (a x : Int) (σ : Hp), O.free (abs s) → ACalls Tryz.prog g [.ptr p 0, .int .i64 a, .int .u64 x] (B s ++ σ) (fun r σ' => ∃ s', abs s' = O.st (abs s) a x ∧ r = .tup [] ∧ σ' = B s' ++ σ)
 cas : ∃ g, Meth Tryz.prog t "CAS" g ∧ ∀ (s : S) (a x y : Int) (σ : Hp), O.free (abs s) → ACalls Tryz.prog g [.ptr p 0, .int .i64 a, .int .u64 x, .int .u64 y] (B s ++ σ) (fun r σ' => ∃ s', abs s' = (O.cs (abs s) a x y).2 ∧ r = .bool (O.cs (abs s) a x y).1 ∧ σ' = B s' ++ σ)
 add : ∃ g, Meth Tryz.prog t "Add" g ∧ ∀ (s : S) (a d : Int) (σ : Hp), O.free (abs s) → ACalls Tryz.prog g [.ptr p 0, .int .i64 a, .int .u64 d] (B s ++ σ) (fun r σ' => ∃ s', abs s' = (O.ad (abs s) a d).2 ∧ r = .int .u64 (O.ad (abs s) a d).1 ∧ σ' = B s' ++ σ)
 hL : AheadOk Tryz.prog t "Load"
 hS : AheadOk Tryz.prog t "Store"
 hC : AheadOk Tryz.prog t "CAS"
 hA : AheadOk Tryz.prog t "Add"
 len : ∃ g, Meth Tryz.prog t "Len" g ∧ ∀ (s : S) (σ : Hp), ACalls Tryz.prog g [.ptr p 0] (B s ++ σ) (fun r σ' => ∃ s', abs s' = abs s ∧ r = .int .i64 (O.ln (abs s)) ∧ σ' = B s' ++ σ)
abbrev AMem.v(M:AMem):AV:=.iface M.t (.ptr M.p 0)
theorem tC(fr b σ:Hp):(b++(fr++σ)).Perm (fr++(b++σ)):=by
 rw[← dU,← dU]
 exact List.Perm.append_right _ PC
section
variable (M:AMem) (fr:Hp) {s:M.S} {σ:Hp} {K:AV→Hp→Prop}
theorem AMem.aLoad {a : Int} (hf : M.O.free (M.abs s)) (k : ∀ s', M.abs s' = (M.O.ld (M.abs s) a).2 → K (.int .u64 (M.O.ld (M.abs s) a).1) (fr ++ (M.B s' ++ σ))) : InvAt Tryz.prog M.t "Load" fun g => CallAt Tryz.prog g K [.ptr M.p 0, .int .i64 a] (fr ++ (M.B s ++ σ)) := by
 obtain⟨g,h1,h2⟩:=M.load
 refine⟨g,h1,.perm _ (tC fr (M.B s) σ) (h2 s a (fr++σ) hf) ?_⟩
 rintro r σ' ⟨s',h3,rfl,rfl⟩
 exact⟨_,(tC fr (M.B s') σ).symm,k s' h3⟩
theorem AMem.aStore {a x : Int} (hf : M.O.free (M.abs s)) (k : ∀ s', M.abs s' = M.O.st (M.abs s) a x → K (.tup []) (fr ++ (M.B s' ++ σ))) : InvAt Tryz.prog M.t "Store" fun g => CallAt Tryz.prog g K [.ptr M.p 0, .int .i64 a, .int .u64 x] (fr ++ (M.B s ++ σ)) := by
 obtain⟨g,h1,h2⟩:=M.store
 refine⟨g,h1,.perm _ (tC fr (M.B s) σ) (h2 s a x (fr++σ) hf) ?_⟩
 rintro r σ' ⟨s',h3,rfl,rfl⟩
 exact⟨_,(tC fr (M.B s') σ).symm,k s' h3⟩
theorem AMem.aCas {a x y : Int} (hf : M.O.free (M.abs s)) (k : ∀ s', M.abs s' = (M.O.cs (M.abs s) a x y).2 → K (.bool (M.O.cs (M.abs s) a x y).1) (fr ++ (M.B s' ++ σ))) : InvAt Tryz.prog M.t "CAS" fun g => CallAt Tryz.prog g K [.ptr M.p 0, .int .i64 a, .int .u64 x, .int .u64 y] (fr ++ (M.B s ++ σ)) := by
 obtain⟨g,h1,h2⟩:=M.cas
 refine⟨g,h1,.perm _ (tC fr (M.B s) σ) (h2 s a x y (fr++σ) hf) ?_⟩
 rintro r σ' ⟨s',h3,rfl,rfl⟩
 exact⟨_,(tC fr (M.B s') σ).symm,k s' h3⟩
theorem AMem.aCasB {a x y : Int} (hf : M.O.free (M.abs s)) (k1 : ∀ s', M.abs s' = (M.O.cs (M.abs s) a x y).2 → (M.O.cs (M.abs s) a x y).1 = true → K (.bool true) (fr ++ (M.B s' ++ σ))) (k2 : ∀ s', M.abs s' = (M.O.cs (M.abs s) a x y).2 → (M.O.cs (M.abs s) a x y).1 = false → K (.bool false) (fr ++ (M.B s' ++ σ))) : InvAt Tryz.prog M.t "CAS" fun g => CallAt Tryz.prog g K [.ptr M.p 0, .int .i64 a, .int .u64 x, .int .u64 y] (fr ++ (M.B s ++ σ)) :=
 M.aCas fr hf fun s' h=>by
  cases hb:(M.O.cs (M.abs s) a x y).1 with
  |true=>exact k1 s' h hb
  |false=>exact k2 s' h hb
theorem AMem.aAdd {a d : Int} (hf : M.O.free (M.abs s)) (k : ∀ s', M.abs s' = (M.O.ad (M.abs s) a d).2 → K (.int .u64 (M.O.ad (M.abs s) a d).1) (fr ++ (M.B s' ++ σ))) : InvAt Tryz.prog M.t "Add" fun g => CallAt Tryz.prog g K [.ptr M.p 0, .int .i64 a, .int .u64 d] (fr ++ (M.B s ++ σ)) := by
 obtain⟨g,h1,h2⟩:=M.add
 refine⟨g,h1,.perm _ (tC fr (M.B s) σ) (h2 s a d (fr++σ) hf) ?_⟩
 rintro r σ' ⟨s',h3,rfl,rfl⟩
 exact⟨_,(tC fr (M.B s') σ).symm,k s' h3⟩
end
def vt(p q:Nat):AMem where
 O:=bJ
 S:=List Int
 abs ws:=ws
 B ws:=[(p,uo q ws.length),(q,aP ws)]
 t:=94
 p:=p
 load:=⟨_,mLoad_,fun ws a σ _=>(Go.Proofs.YtnikdflhefijbaaGreat.aLoad p q ws a σ).mono fun _ _ h=>⟨ws,rfl,h.1,h.2⟩⟩
 store:=⟨_,mStore_,fun ws a x σ _=>(Go.Proofs.YtnikdflhefijbaaGreat.aStore p q ws a x σ).mono fun _ _ h=>⟨_,rfl,h.1,h.2⟩⟩
 cas:=⟨_,mCAS_,fun ws a x y σ _=>(Go.Proofs.YtnikdflhefijbaaGreat.aCas p q ws a x y σ).mono fun _ _ h=>⟨_,rfl,h.1,h.2⟩⟩
 add:=⟨_,mAdd_,fun ws a d σ _=>(Go.Proofs.YtnikdflhefijbaaGreat.aAdd p q ws a d σ).mono fun _ _ h=>⟨_,rfl,h.1,h.2⟩⟩
 hL:=hLoad_
 hS:=hStore_
 hC:=hCAS_
 hA:=hAdd_
 len:=⟨_,mLen_,fun ws σ=>(Go.Proofs.YtnikdflhefijbaaGreat.Xp p q ws σ).mono fun _ _ h=>⟨ws,rfl,h.1,h.2⟩⟩
abbrev wr(n:Int):Int:=IntKind.i64.wrap n
structure Tk where
 f:Int
 c:Int
 v:Int
 new:Bool
 ended:Bool
 j6:Bool
def zX(t:Tk):List AV:=[.int .i64 t.f,.int .i64 t.c,.int .i64 t.v,.bool t.new,.bool t.ended,.bool t.j6]
def k8(O:km)(t:Tk)(a:O.A):Tk×O.A×Bool:=
 if t.ended then (t,a,true)
 else if t.j6 then ({ t with ended:=true },(O.ad a t.c 1).2,true)
 else if 0≤t.v then
  (if (O.cs a (wr (t.f+t.v)) 0 1).1 then ({ t with j6:=true,new:=true },(O.cs a (wr (t.f+t.v)) 0 1).2,false) else ({ t with j6:=true,new:=false,ended:=true },(O.cs a (wr (t.f+t.v)) 0 1).2,true))
 else ({ t with j6:=true,new:=false,ended:=true },a,true)
def qF(M:AMem)(σ:Hp){X:Type}(B:X→List AV)(r:Nat)(res:X×M.O.A×Bool):AV→Hp→Prop:=
 fun x σ'=>∃m',M.abs m'=res.2.1∧x=.bool res.2.2∧σ'=(r,B res.1)::(M.B m'++σ)
theorem ke{M:AMem}{σ:Hp}{X:Type}{B:X→List AV}{r:Nat}{res:X×M.O.A×Bool}{x:X}{a:M.O.A}{b:Bool}{m':M.S}(h:res=(x,a,b))(hm:M.abs m'=a):qF M σ B r res (.bool b) ((r,B x)::(M.B m'++σ)):=by
 subst h
 exact⟨m',hm,rfl,rfl⟩
theorem IN(M:AMem)(r:Nat)(t:Tk)(m:M.S)(d:Int)(σ:Hp)(hf:M.O.free (M.abs m)):ACalls Tryz.prog 408 [.ptr r 0,M.v,.int .i64 d] ((r,zX t)::(M.B m++σ)) (qF M σ zX r (k8 M.O t (M.abs m))):=by
 refine ar Tryz.func408 ?_
 refine eY.kL 0 _ _ rfl rfl (fun h0=>?_) (fun h0=>?_)
 ·exact .done (ke (x:=t) (by simp[k8,h0]) rfl)
 refine aw [] (dG _ _ _) ?_
 refine eY.kL 0 _ _ rfl rfl (fun h1=>?_) (fun h1=>?_)
 ·refine .each (by kernel_rfl) ?_
  refine aa 0 ?_
  refine fo.mk M.hA ?_
  refine M.aAdd [_] hf fun m' hm=>?_
  refine .fwd 1 ?_
  refine aj 0 ?_
  exact .done (ke (x:= { t with ended:=true }) (by simp[k8,h0,h1]) hm)
 refine aj 0 ?_
 refine .each (by kernel_rfl) ?_
 by_cases h2:0≤t.v
 ·repeat' first
   |refine And.intro ?_ ?_
   |refine aa 0 ?_
   |refine ak (fun _=>?_) (fun h=>absurd h2 h)
   |refine fo.mk M.hC ?_
  all_goals
   refine M.aCasB [_] hf (fun m' hm hb=>?_) (fun m' hm hb=>?_)
   ·refine aj 0 ?_
    refine aa 0 ?_
    exact .done (ke (x:= { t with j6:=true,new:=true }) (by simp[k8,h0,h1,h2,hb]) hm)
   ·refine aj 0 ?_
    refine aa 0 ?_
    refine aj 0 ?_
    exact .done (ke (x:= { t with j6:=true,new:=false,ended:=true }) (by simp[k8,h0,h1,h2,hb]) hm)
 ·repeat' first
   |refine And.intro ?_ ?_
   |refine aa 0 ?_
   |refine ak (fun h=>absurd h h2) (fun _=>?_)
   |refine aj 0 ?_
  all_goals
   exact .done (ke (x:= { t with j6:=true,new:=false,ended:=true }) (by simp[k8,h0,h1,h2]) rfl)
structure Ck where
 f:Int
 c:Int
 v:Int
 ended:Bool
def Gk(t:Ck):List AV:=[.int .i64 t.f,.int .i64 t.c,.int .i64 t.v,.bool t.ended]
def sy(O:km)(t:Ck)(a:O.A):Ck×O.A×Bool:=
 if t.ended then (t,a,true) else ({ t with ended:=true },if 0≤t.v then O.st a (wr (t.f+t.v)) 0 else a,true)
theorem V5(M:AMem)(r:Nat)(t:Ck)(m:M.S)(d:Int)(σ:Hp)(hf:M.O.free (M.abs m)):ACalls Tryz.prog 405 [.ptr r 0,M.v,.int .i64 d] ((r,Gk t)::(M.B m++σ)) (qF M σ Gk r (sy M.O t (M.abs m))):=by
 refine ar Tryz.func405 ?_
 refine eY.kL 0 _ _ rfl rfl (fun h0=>?_) (fun h0=>?_)
 ·exact .done (ke (x:=t) (by simp[sy,h0]) rfl)
 refine aj 0 ?_
 refine aa 0 ?_
 refine ak (fun h2=>?_) (fun h2=>?_)
 ·have h2:0≤t.v:=h2
  refine .each (by kernel_rfl) ?_
  repeat' first
   |refine And.intro ?_ ?_
   |refine aa 0 ?_
   |refine aw [] (dG _ _ _) ?_
   |refine fo.mk M.hS ?_
  all_goals
   refine M.aStore [_] hf fun m' hm=>?_
   exact .done (ke (x:= { t with ended:=true }) (by simp[sy,h0,h2]) hm)
 ·have h2:¬0≤t.v:=h2
  exact .done (ke (x:= { t with ended:=true }) (by simp[sy,h0,h2]) rfl)
structure Rk where
 f:Int
 c:Int
 left:Int
 ended:Bool
def E7(t:Rk):List AV:=[.int .i64 t.f,.int .i64 t.c,.int .i64 t.left,.bool t.ended]
def tN(O:km)(t:Rk)(a:O.A):Rk×O.A×Bool:=
 if t.ended then (t,a,true) else ({ t with ended:=true,left:=wr (O.ad a t.c 18446744073709551615).1 },(O.ad a t.c 18446744073709551615).2,true)
theorem U2(M:AMem)(r:Nat)(t:Rk)(m:M.S)(d:Int)(σ:Hp)(hf:M.O.free (M.abs m)):ACalls Tryz.prog 410 [.ptr r 0,M.v,.int .i64 d] ((r,E7 t)::(M.B m++σ)) (qF M σ E7 r (tN M.O t (M.abs m))):=by
 refine ar Tryz.func410 ?_
 refine eY.kL 0 _ _ rfl rfl (fun h0=>?_) (fun h0=>?_)
 ·exact .done (ke (x:=t) (by simp[tN,h0]) rfl)
 refine aj 0 ?_
 refine .each (by kernel_rfl) ?_
 repeat' first
  |refine And.intro ?_ ?_
  |refine aa 0 ?_
  |refine aw [] (dG _ _ _) ?_
  |refine fo.mk M.hA ?_
 all_goals
  refine M.aAdd [_] hf fun m' hm=>?_
  refine aj 0 ?_
  exact .done (ke (x:= { t with ended:=true,left:=wr (M.O.ad (M.abs m) t.c 18446744073709551615).1 }) (by simp[tN,h0]) hm)
structure Qk where
 f:Int
 c:Int
 is:Bool
 ended:Bool
def E9(t:Qk):List AV:=[.int .i64 t.f,.int .i64 t.c,.bool t.is,.bool t.ended]
def sx(O:km)(t:Qk)(a:O.A):Qk×O.A×Bool:=
 if t.ended then (t,a,true) else ({ t with ended:=true,is:=decide ((O.ld a t.c).1=0) },(O.ld a t.c).2,true)
theorem Is(M:AMem)(r:Nat)(t:Qk)(m:M.S)(d:Int)(σ:Hp)(hf:M.O.free (M.abs m)):ACalls Tryz.prog 404 [.ptr r 0,M.v,.int .i64 d] ((r,E9 t)::(M.B m++σ)) (qF M σ E9 r (sx M.O t (M.abs m))):=by
 refine ar Tryz.func404 ?_
 refine eY.kL 0 _ _ rfl rfl (fun h0=>?_) (fun h0=>?_)
 ·exact .done (ke (x:=t) (by simp[sx,h0]) rfl)
 refine aj 0 ?_
 refine .each (by kernel_rfl) ?_
 repeat' first
  |refine And.intro ?_ ?_
  |refine aa 0 ?_
  |refine aw [] (dG _ _ _) ?_
  |refine fo.mk M.hL ?_
 all_goals
  refine M.aLoad [_] hf fun m' hm=>?_
  refine ak (fun h2=>?_) (fun h2=>?_)
  ·have h2:(M.O.ld (M.abs m) t.c).1=0:=h2
   refine aj 0 ?_
   exact .done (ke (x:= { t with ended:=true,is:=true }) (by simp[sx,h0,h2]) hm)
  ·have h2:¬(M.O.ld (M.abs m) t.c).1=0:=h2
   refine aj 0 ?_
   exact .done (ke (x:= { t with ended:=true,is:=false }) (by simp[sx,h0,h2]) hm)
theorem afh(M:AMem)(f c:Int)(m:M.S)(σ:Hp)(hf:M.O.free (M.abs m)):ACalls Tryz.prog 46 [.agg [.int .i64 f,.int .i64 c],M.v] (M.B m++σ) (fun x σ'=>∃m',M.abs m'=(M.O.ld (M.abs m) c).2∧x=.int .i64 (wr (M.O.ld (M.abs m) c).1)∧σ'=M.B m'++σ):=by
 refine ar Tryz.func46 ?_
 intro b
 refine .each (by kernel_rfl) ?_
 repeat' first
  |refine And.intro ?_ ?_
  |refine aa 0 ?_
  |refine aw [] (dG _ _ _) ?_
 all_goals
  refine M.aLoad [_] hf fun m' hm=>?_
  exact .drop 0 1 (.done ⟨m',hm,rfl,rfl⟩)
theorem ags(M:AMem)(f c v:Int)(m:M.S)(σ:Hp)(hf:M.O.free (M.abs m)):ACalls Tryz.prog 49 [.agg [.int .i64 f,.int .i64 c],M.v,.int .i64 v] (M.B m++σ) (fun x σ'=>∃m',M.abs m'=(if 0≤v then (M.O.ld (M.abs m) (wr (f+v))).2 else M.abs m)∧x=.bool (decide (0≤v)&&decide ((M.O.ld (M.abs m) (wr (f+v))).1=1))∧σ'=M.B m'++σ):=by
 refine ar Tryz.func49 ?_
 intro b
 refine .each (by kernel_rfl) ?_
 by_cases h:0≤v
 ·repeat' first
   |refine And.intro ?_ ?_
   |refine ak (fun _=>?_) (fun h2=>absurd h h2)
   |refine aa 0 ?_
   |refine aw [] (dG _ _ _) ?_
  all_goals
   refine M.aLoad [_] hf fun m' hm=>?_
   refine ak (fun h2=>?_) (fun h2=>?_)
   ·have h2:(M.O.ld (M.abs m) (wr (f+v))).1=1:=h2
    exact .drop 0 1 (.done ⟨m',by rw[if_pos h];exact hm,cy (by simp[h,h2]),rfl⟩)
   ·have h2:¬(M.O.ld (M.abs m) (wr (f+v))).1=1:=h2
    exact .drop 0 1 (.done ⟨m',by rw[if_pos h];exact hm,cy (by simp[h2]),rfl⟩)
 ·repeat' first
   |refine And.intro ?_ ?_
   |refine ak (fun h2=>absurd h2 h) (fun _=>?_)
  all_goals
   exact .drop 0 1 (.done ⟨m,by rw[if_neg h],cy (by simp[h]),rfl⟩)
theorem Me(f c:Int)(p q:Nat)(ws:List Int)(σ:Hp):ACalls Tryz.prog 46 [.agg [.int .i64 f,.int .i64 c],kK p] (bM p q ws σ) (ay (.int .i64 (wr (cc ws c))) (bM p q ws σ)):=
 (afh (vt p q) f c ws σ trivial).mono fun _ _ ⟨m',h1,h2,h3⟩=>by
  have h1:m'=ws:=h1
  subst h1
  exact⟨h2,h3⟩
theorem aeW(f c v:Int)(p q:Nat)(ws:List Int)(σ:Hp):ACalls Tryz.prog 49 [.agg [.int .i64 f,.int .i64 c],kK p,.int .i64 v] (bM p q ws σ) (ay (.bool (decide (0≤v)&&decide (cc ws (wr (f+v))=1))) (bM p q ws σ)):=
 (ags (vt p q) f c v ws σ trivial).mono fun _ _ ⟨m',h1,h2,h3⟩=>by
  have h1:m'=ws:=by
   refine h1.trans ?_
   show (if 0≤v then ws else ws)=ws
   split <;> rfl
  subst h1
  exact⟨h2,h3⟩
end Go.Proofs.YtnikdflhefijbaaGreat
namespace Go.Proofs.YtnikdflhefijbaaGreat
set_option maxRecDepth 100000 in
theorem afG(xs ys:List Int)(σ:Hp)(h1:xs.length≤1000000):ACalls Tryz.prog 63 [.ae (.int .u64) xs,.ae (.int .u64) ys] σ (fun r σ'=>r=.bool (decide (xs=ys))∧σ'=σ):=by
 refine ar Tryz.func63 ?_
 refine cX (fun hl=>?_) (fun hl=>?_)
 ·have:xs≠ys:=by rintro rfl;simp at hl
  exact .done ⟨by simp[this];rfl,rfl⟩
 ·have hl:(!decide ((xs.length:Int)=(ys.length:Int)))=false:=hl
  have hlen:xs.length=ys.length:=by simp at hl;omega
  refine bQ (S:=Nat) (fun k=>[(0,.ae (.int .u64) xs),(1,.ae (.int .u64) ys),(12,.int .i64 xs.length),(13,.int .i64 k)]) (fun _=>σ) (fun k=>k≤xs.length∧xs.take k=ys.take k) (fun k=>xs.length-k) 0 ⟨⟨bA _,rfl⟩,⟨rfl,rfl,rfl,rfl,trivial⟩,rfl⟩ ?_
  rintro k g ⟨hk,fi⟩
  refine ak (fun ab=>?_) (fun aq=>?_)
  ·have dQ:k<xs.length:=by omega
   have xU:k<ys.length:=by omega
   refine gq.quiet (by kernel_rfl) ?_
   refine aG.mk rfl (bE.mk xs[k] (by omega) (get_some dQ) ?_)
   refine aG.mk rfl (bE.mk ys[k] (by omega) (get_some xU) ?_)
   refine cX (fun hx=>?_) (fun hx=>?_)
   ·have:xs≠ys:=by rintro rfl;simp at hx
    exact .done ⟨by simp[this];rfl,rfl⟩
   ·have jA:xs[k]=ys[k]:=by simpa using hx
    refine next (k+1) (Nat.sub_lt_sub_left dQ (PD k)) ⟨dQ,?_⟩ ⟨rfl,rfl,rfl,aS (by omega),trivial⟩ rfl
    rw[ff dQ,ff xU,fi,jA]
  ·obtain rfl:k=xs.length:=by omega
   have:xs=ys:=by
    rw[fA]at fi
    rw[fi,hlen,fA]
   exact .done ⟨by simp[this];rfl,rfl⟩
set_option maxRecDepth 100000
theorem Rc{α:Type}{f:α→Hp}{l:List α}{j:Nat}(h:j<l.length):(l.flatMap f).Perm (f l[j]++(l.eraseIdx j).flatMap f):=by
 induction l generalizing j with
 |nil=>simp at h
 |cons x l ih=>
  cases j with
  |zero=>exact List.Perm.refl _
  |succ j=>
   rw[yy]
   have:=ih (j:=j) (by simpa using h)
   refine (List.Perm.append_left _ this).trans ?_
   simp only[List.getElem_cons_succ,List.eraseIdx_cons_succ,yy,← dU]
   exact List.Perm.append_right _ PC
theorem aat{α:Type}{f:α→Hp}{l:List α}{j:Nat}(h:j<l.length)(y:α):((l.set j y).flatMap f).Perm (f y++(l.eraseIdx j).flatMap f):=by
 have:=Rc (f:=f) (l:=l.set j y) (j:=j) (by simpa using h)
 rw[List.getElem_set_self,Py]at this
 exact this
set_option maxHeartbeats 4000000
theorem LA{β:Type}(f:Nat→β)(c:β→AV)(i:Nat):((List.range (i+1)).map f).map c=((List.range i).map f).map c++[c (f i)]:=by
 rw[tk,cW,cW];rfl
theorem Oh{e k:Nat}{v:AV}{acc:Hp}{cs cs':List AV}(h:cs=cs')(ha:Acc e k v acc cs'):Acc e k v acc cs:=h▸ha
theorem agO(g:FuncId)(cap:List AV)(St:List Nat→Hp→Prop)(S0 σ:Hp)(h0:St [] S0)(n:Nat)(hn:n≤100000)(wE:∀(L:List Nat) (S τ:Hp),L.length<n→St L S→ACalls Tryz.prog g (.int .i64 L.length::cap) (S++τ) (fun r σ'=>∃w S',r=.ptr w 0∧σ'=S'++τ∧St (L++[w]) S')):ACalls Tryz.prog 98 [.int .i64 n,.fn (.func g) [] cap] (S0++σ) (fun r σ'=>∃L S' acc,L.length=n∧St L S'∧Acc 1 n r acc (L.map fun w=>.ptr w 0)∧σ'=acc++(S'++σ)):=by
 refine ar Tryz.func98 ?_
 refine .wrap 5 .ai rfl rfl ?_
 refine bQ (S:=List Nat×AV×Hp×{S:Hp // True}) (fun t=>[(1,.fn (.func g) [] cap),(5,.via t.2.1),(7,.int .i64 n),(8,.int .i64 t.1.length)]) (fun t=>t.2.2.1++(t.2.2.2.1++σ)) (fun t=>t.1.length≤n∧Acc 1 t.1.length t.2.1 t.2.2.1 (t.1.map (fun w=>AV.ptr w 0))∧St t.1 t.2.2.2.1) (fun t=>n-t.1.length) ([],.ai,[],⟨S0,trivial⟩) ⟨⟨bA _,.nil,h0⟩,⟨rfl,rfl,rfl,rfl,trivial⟩,rfl⟩ ?_
 rintro⟨L,v,acc,⟨S,_⟩⟩ g2 ⟨dZ,h0,FK⟩
 have hi:L.length≤n:=dZ
 have h:Acc 1 L.length v acc (L.map (fun w=>AV.ptr w 0)):=h0
 have hS:St L S:=FK
 clear dZ h0 FK
 refine ak (p:=(L.length:Int)<(n:Int)) (fun ab=>?_) (fun aq=>?_)
 rotate_left
 ·have aq:L.length=n:=by omega
  exact .done ⟨L,S,acc,aq,hS,aq▸h,rfl⟩
 have ab:L.length<n:=by omega
 refine .perm (σ2:=S++(acc++σ)) _ (eX acc S σ) (wE L S (acc++σ) ab hS) ?_
 rintro _ _ ⟨w,S',rfl,rfl,Cj⟩
 refine⟨_,(eX acc S' σ).symm,?_⟩
 intro b1
 refine jP [_] h (.af 0 b1 0 1 _ rfl (cI rfl)) rfl (by omega) (by decide) (by decide) (fun v' bD h'=>?_)
 refine aY (L++[w],v',bD,⟨S',trivial⟩) (by show n-(L++[w]).length<n-L.length;rw[bZ];simp only[tp];omega) ⟨by rw[bZ];exact ab,?_,Cj⟩ ⟨rfl,rfl,rfl,?_,trivial⟩ (.drop 0 1 (.refl _))
 ·show Acc 1 (L++[w]).length v' bD ((L++[w]).map (fun w=>AV.ptr w 0))
  rw[bZ,cW]
  exact h'
 ·rw[bZ]
  exact aS (show L.length<1000000000 by omega)
theorem V2(g:FuncId)(cap:List AV)(St:List Nat→Hp→Prop)(S0 σ:Hp)(h0:St [] S0)(n:Nat)(hn:n≤100000)(wE:∀(L:List Nat) (S τ:Hp),L.length<n→St L S→ACalls Tryz.prog g (.int .i64 L.length::cap) (S++τ) (fun r σ'=>∃w S',r=.iface 168 (.ptr w 0)∧σ'=S'++τ∧St (L++[w]) S')):ACalls Tryz.prog 102 [.int .i64 n,.fn (.func g) [] cap] (S0++σ) (fun r σ'=>∃L S' acc,L.length=n∧St L S'∧Acc 1 n r acc (L.map fun w=>.iface 168 (.ptr w 0))∧σ'=acc++(S'++σ)):=by
 refine ar Tryz.func102 ?_
 refine .wrap 5 .ai rfl rfl ?_
 refine bQ (S:=List Nat×AV×Hp×{S:Hp // True}) (fun t=>[(1,.fn (.func g) [] cap),(5,.via t.2.1),(7,.int .i64 n),(8,.int .i64 t.1.length)]) (fun t=>t.2.2.1++(t.2.2.2.1++σ)) (fun t=>t.1.length≤n∧Acc 1 t.1.length t.2.1 t.2.2.1 (t.1.map (fun w=>AV.iface 168 (.ptr w 0)))∧St t.1 t.2.2.2.1) (fun t=>n-t.1.length) ([],.ai,[],⟨S0,trivial⟩) ⟨⟨bA _,.nil,h0⟩,⟨rfl,rfl,rfl,rfl,trivial⟩,rfl⟩ ?_
 rintro⟨L,v,acc,⟨S,_⟩⟩ g2 ⟨dZ,h0,FK⟩
 have hi:L.length≤n:=dZ
 have h:Acc 1 L.length v acc (L.map (fun w=>AV.iface 168 (.ptr w 0))):=h0
 have hS:St L S:=FK
 clear dZ h0 FK
 refine ak (p:=(L.length:Int)<(n:Int)) (fun ab=>?_) (fun aq=>?_)
 rotate_left
 ·have aq:L.length=n:=by omega
  exact .done ⟨L,S,acc,aq,hS,aq▸h,rfl⟩
 have ab:L.length<n:=by omega
 refine .perm (σ2:=S++(acc++σ)) _ (eX acc S σ) (wE L S (acc++σ) ab hS) ?_
 rintro _ _ ⟨w,S',rfl,rfl,Cj⟩
 refine⟨_,(eX acc S' σ).symm,?_⟩
 intro b1
 refine jP [_] h (.af 0 b1 0 1 _ rfl (cI rfl)) rfl (by omega) (by decide) (by decide) (fun v' bD h'=>?_)
 refine aY (L++[w],v',bD,⟨S',trivial⟩) (by show n-(L++[w]).length<n-L.length;rw[bZ];simp only[tp];omega) ⟨by rw[bZ];exact ab,?_,Cj⟩ ⟨rfl,rfl,rfl,?_,trivial⟩ (.drop 0 1 (.refl _))
 ·show Acc 1 (L++[w]).length v' bD ((L++[w]).map (fun w=>AV.iface 168 (.ptr w 0)))
  rw[bZ,cW]
  exact h'
 ·rw[bZ]
  exact aS (show L.length<1000000000 by omega)
theorem V3(g:FuncId)(cap:List AV)(S σ:Hp)(f:Nat→Int)(n:Nat)(hn:n≤100000)(wE:∀i:Nat,i<n→∀τ,ACalls Tryz.prog g (.int .i64 i::cap) (S++τ) (ay (.int .i64 (f i)) (S++τ))):ACalls Tryz.prog 50 [.int .i64 n,.fn (.func g) [] cap] (S++σ) (ay (.ae (.int .i64) ((List.range n).map f)) (S++σ)):=by
 refine ar Tryz.func50 ?_
 refine .wrap 5 .ai rfl rfl ?_
 refine bQ (S:=Nat×AV×Hp) (fun t=>[(1,.fn (.func g) [] cap),(5,.via t.2.1),(7,.int .i64 n),(8,.int .i64 t.1)]) (fun t=>t.2.2++(S++σ)) (fun t=>t.1≤n∧Acc 1 t.1 t.2.1 t.2.2 (((List.range t.1).map f).map (AV.int .i64))) (fun t=>n-t.1) (0,.ai,[]) ⟨⟨bA _,.nil⟩,⟨rfl,rfl,rfl,rfl,trivial⟩,rfl⟩ ?_
 rintro⟨i,v,acc⟩ g ⟨dZ,h0⟩
 have hi:i≤n:=dZ
 have h:Acc 1 i v acc (((List.range i).map f).map (AV.int .i64)):=h0
 clear dZ h0
 refine ak (p:=(i:Int)<(n:Int)) (fun ab=>?_) (fun aq=>?_)
 rotate_left
 ·have aq:i=n:=by omega
  subst aq
  have hlen:((List.range i).map f).length=i:=by rw[cg,kS]
  exact qs [] (s:=(.int .i64)) h hlen.symm (Pv ..) Nat.one_pos (.done ⟨rfl,rfl⟩)
 have ab:i<n:=by omega
 refine .perm (σ2:=S++(acc++σ)) _ (eX acc S σ) (wE i ab (acc++σ)) ?_
 rintro _ _ ⟨rfl,rfl⟩
 refine⟨_,(eX acc S σ).symm,?_⟩
 intro b1
 refine jP [_] h (.af 0 b1 0 1 _ rfl (cI rfl)) rfl (by omega) (by decide) (by decide) (fun v' bD h'=>?_)
 refine aY (i+1,v',bD) (by show n-(i+1)<n-i;omega) ⟨ab,?_⟩ ⟨rfl,rfl,rfl,aS (by omega),trivial⟩ (.drop 0 1 (.refl _))
 show Acc 1 (i+1) v' bD (((List.range (i+1)).map f).map (AV.int .i64))
 exact Oh (LA f (AV.int .i64) i) h'
theorem agQ(g:FuncId)(cap:List AV)(S σ:Hp)(f:Nat→Bool)(n:Nat)(hn:n≤100000)(wE:∀i:Nat,i<n→∀τ,ACalls Tryz.prog g (.int .i64 i::cap) (S++τ) (ay (.bool (f i)) (S++τ))):ACalls Tryz.prog 47 [.int .i64 n,.fn (.func g) [] cap] (S++σ) (ay (.ae .bool ((List.range n).map f)) (S++σ)):=by
 refine ar Tryz.func47 ?_
 refine .wrap 5 .ai rfl rfl ?_
 refine bQ (S:=Nat×AV×Hp) (fun t=>[(1,.fn (.func g) [] cap),(5,.via t.2.1),(7,.int .i64 n),(8,.int .i64 t.1)]) (fun t=>t.2.2++(S++σ)) (fun t=>t.1≤n∧Acc 1 t.1 t.2.1 t.2.2 (((List.range t.1).map f).map AV.bool)) (fun t=>n-t.1) (0,.ai,[]) ⟨⟨bA _,.nil⟩,⟨rfl,rfl,rfl,rfl,trivial⟩,rfl⟩ ?_
 rintro⟨i,v,acc⟩ g ⟨dZ,h0⟩
 have hi:i≤n:=dZ
 have h:Acc 1 i v acc (((List.range i).map f).map AV.bool):=h0
 clear dZ h0
 refine ak (p:=(i:Int)<(n:Int)) (fun ab=>?_) (fun aq=>?_)
 rotate_left
 ·have aq:i=n:=by omega
  subst aq
  have hlen:((List.range i).map f).length=i:=by rw[cg,kS]
  exact qs [] (s:=.bool) h hlen.symm (Pv ..) Nat.one_pos (.done ⟨rfl,rfl⟩)
 have ab:i<n:=by omega
 refine .perm (σ2:=S++(acc++σ)) _ (eX acc S σ) (wE i ab (acc++σ)) ?_
 rintro _ _ ⟨rfl,rfl⟩
 refine⟨_,(eX acc S σ).symm,?_⟩
 intro b1
 refine jP [_] h (.af 0 b1 0 1 _ rfl (cI rfl)) rfl (by omega) (by decide) (by decide) (fun v' bD h'=>?_)
 refine aY (i+1,v',bD) (by show n-(i+1)<n-i;omega) ⟨ab,?_⟩ ⟨rfl,rfl,rfl,aS (by omega),trivial⟩ (.drop 0 1 (.refl _))
 show Acc 1 (i+1) v' bD (((List.range (i+1)).map f).map AV.bool)
 exact Oh (LA f AV.bool i) h'
theorem agP(g:FuncId)(cap:List AV)(S σ:Hp)(f:Nat→List Int)(n:Nat)(hn:n≤100000)(wE:∀i:Nat,i<n→∀τ,ACalls Tryz.prog g (.int .i64 i::cap) (S++τ) (ay (.ae (.int .u64) (f i)) (S++τ))):ACalls Tryz.prog 104 [.int .i64 n,.fn (.func g) [] cap] (S++σ) (ay (.ae (.slice (.int .u64)) ((List.range n).map f)) (S++σ)):=by
 refine ar Tryz.func104 ?_
 refine .wrap 5 .ai rfl rfl ?_
 refine bQ (S:=Nat×AV×Hp) (fun t=>[(1,.fn (.func g) [] cap),(5,.via t.2.1),(7,.int .i64 n),(8,.int .i64 t.1)]) (fun t=>t.2.2++(S++σ)) (fun t=>t.1≤n∧Acc 1 t.1 t.2.1 t.2.2 (((List.range t.1).map f).map (AV.ae (.int .u64)))) (fun t=>n-t.1) (0,.ai,[]) ⟨⟨bA _,.nil⟩,⟨rfl,rfl,rfl,rfl,trivial⟩,rfl⟩ ?_
 rintro⟨i,v,acc⟩ g ⟨dZ,h0⟩
 have hi:i≤n:=dZ
 have h:Acc 1 i v acc (((List.range i).map f).map (AV.ae (.int .u64))):=h0
 clear dZ h0
 refine ak (p:=(i:Int)<(n:Int)) (fun ab=>?_) (fun aq=>?_)
 rotate_left
 ·have aq:i=n:=by omega
  subst aq
  have hlen:((List.range i).map f).length=i:=by rw[cg,kS]
  exact qs [] (s:=(.slice (.int .u64))) h hlen.symm (Pv ..) Nat.one_pos (.done ⟨rfl,rfl⟩)
 have ab:i<n:=by omega
 refine .perm (σ2:=S++(acc++σ)) _ (eX acc S σ) (wE i ab (acc++σ)) ?_
 rintro _ _ ⟨rfl,rfl⟩
 refine⟨_,(eX acc S σ).symm,?_⟩
 intro b1
 refine jP [_] h (.af 0 b1 0 1 _ rfl (cI rfl)) rfl (by omega) (by decide) (by decide) (fun v' bD h'=>?_)
 refine aY (i+1,v',bD) (by show n-(i+1)<n-i;omega) ⟨ab,?_⟩ ⟨rfl,rfl,rfl,aS (by omega),trivial⟩ (.drop 0 1 (.refl _))
 show Acc 1 (i+1) v' bD (((List.range (i+1)).map f).map (AV.ae (.int .u64)))
 exact Oh (LA f (AV.ae (.int .u64)) i) h'
theorem aiN(l:List Int)(x:Int)(σ:Hp)(hl:l.length≤1000000):ACalls Tryz.prog 144 [.ae (.int .i64) l,.int .i64 x] σ (ay (.bool (l.any fun z=>decide (x=z))) σ):=by
 refine ar Tryz.func144 ?_
 refine bQ (S:=Nat) (fun k=>[(1,.int .i64 x),(7,.ae (.int .i64) l),(8,.int .i64 l.length),(9,.int .i64 k)]) (fun _=>σ) (fun k=>k≤l.length∧((l.take k).any fun z=>decide (x=z))=false) (fun k=>l.length-k) 0 ⟨⟨bA _,rfl⟩,⟨rfl,rfl,rfl,rfl,trivial⟩,rfl⟩ ?_
 rintro k g ⟨aK,lG⟩
 have hk:k≤l.length:=aK
 have ha:((l.take k).any fun z=>decide (x=z))=false:=lG
 clear aK lG
 refine ak (fun ab=>?_) (fun aq=>?_)
 ·have ab:k<l.length:=by have ab:(k:Int)<l.length:=ab;omega
  have hs:=rF ab fun z:Int=>decide (x=z)
  rw[ha,po]at hs
  refine aG.mk rfl (bE.mk l[k] (by omega) (get_some ab) ?_)
  refine ak (p:=l[k]=x) (fun d1=>?_) (fun d1=>?_)
  ·exact .done ⟨cy (mF.2 ⟨l[k],bP ab,aT d1.symm⟩).symm,rfl⟩
  ·exact aY (k+1) (by show l.length-(k+1)<l.length-k;omega) ⟨ab,hs.trans (bS fun h=>d1 h.symm)⟩ ⟨rfl,rfl,rfl,aS (by omega),trivial⟩ (.refl _)
 ·have aq:k=l.length:=by have aq:¬(k:Int)<l.length:=aq;omega
  subst aq
  rw[fA]at ha
  exact .done ⟨cy ha.symm,rfl⟩
end Go.Proofs.YtnikdflhefijbaaGreat
namespace Go.Proofs.YtnikdflhefijbaaGreat
def bX:List Nat→Nat
 | []=>0
 |b::l=>bX l*256+b
theorem C7(a b c d:Nat)(hb:b<256)(hd:d<256):(a*256+b) &&& (c*256+d)=(a &&& c)*256+(b &&& d):=by
 have Ah:b &&& d<256:=yx FY hb
 refine Cy fun i=>?_
 rw[Km,Co a,Co c,Co (a &&& c),show (256:Nat)=2 ^ 8 by decide,PG a hb,PG c hd,PG (a &&& c) Ah]
 split
 ·rw[Km]
 ·rw[Km]
def g1(b:Nat):Nat:=(b / 2 &&& 85)+(b &&& 85)
def g2(b:Nat):Nat:=(b / 4 &&& 51)+(b &&& 51)
def g3(b:Nat):Nat:=(b / 16+b) &&& 15
theorem ahv:∀h<2,∀b<256,(h*128+b / 2) &&& 85=b / 2 &&& 85:=by decide +kernel
theorem ahu:∀h<4,∀b<256,(h*64+b / 4) &&& 51=b / 4 &&& 51:=by decide +kernel
theorem aco:∀b<256,g1 b≤170:=by decide +kernel
theorem acn:∀b<256,g2 (g1 b) % 16≤4∧g2 (g1 b) / 16≤4:=by decide +kernel
theorem aht:∀h≤4,∀l≤4,∀k≤4,(k*16+((h*16+l) / 16+(h*16+l))) &&& 15=g3 (h*16+l)∧k*16+((h*16+l) / 16+(h*16+l))<256:=by decide +kernel
def vN(b:Nat):Nat:=g3 (g2 (g1 b))
theorem vd:∀b<256,vN b≤8:=by decide +kernel
theorem aa1:∀b<256,vN b=0→b=0:=by decide +kernel
theorem Vh:∀(l:List Nat),(∀b∈l,b<256)→(bX l / 2 &&& bX (l.map fun _=>85))+(bX l &&& bX (l.map fun _=>85))=bX (l.map g1)
 | [],_=>rfl
 |b::l,h=>by
  have hb:=h b (.head _)
  have ih:=Vh l (fun x hx=>h x (.tail _ hx))
  show (((bX l*256+b) / 2) &&& (bX (l.map fun _=>85)*256+85))+((bX l*256+b) &&& (bX (l.map fun _=>85)*256+85))=bX (l.map g1)*256+g1 b
  have e:(bX l*256+b) / 2=bX l / 2*256+(bX l % 2*128+b / 2):=by omega
  rw[e,C7 _ _ _ _ (by omega) (by decide),C7 _ _ _ _ hb (by decide),ahv _ (ob _ (by decide)) _ hb,← ih]
  show _=_*256+((b / 2 &&& 85)+(b &&& 85))
  generalize bX l / 2 &&& bX (l.map fun _=>85)=A
  generalize bX l &&& bX (l.map fun _=>85)=B
  generalize b / 2 &&& 85=C
  generalize b &&& 85=D
  omega
theorem Vg:∀(l:List Nat),(∀b∈l,b<256)→(bX l / 4 &&& bX (l.map fun _=>51))+(bX l &&& bX (l.map fun _=>51))=bX (l.map g2)
 | [],_=>rfl
 |b::l,h=>by
  have hb:=h b (.head _)
  have ih:=Vg l (fun x hx=>h x (.tail _ hx))
  show (((bX l*256+b) / 4) &&& (bX (l.map fun _=>51)*256+51))+((bX l*256+b) &&& (bX (l.map fun _=>51)*256+51))=bX (l.map g2)*256+g2 b
  have e:(bX l*256+b) / 4=bX l / 4*256+(bX l % 4*64+b / 4):=by omega
  rw[e,C7 _ _ _ _ (by omega) (by decide),C7 _ _ _ _ hb (by decide),ahu _ (ob _ (by decide)) _ hb,← ih]
  show _=_*256+((b / 4 &&& 51)+(b &&& 51))
  generalize bX l / 4 &&& bX (l.map fun _=>51)=A
  generalize bX l &&& bX (l.map fun _=>51)=B
  generalize b / 4 &&& 51=C
  generalize b &&& 51=D
  omega
theorem abh:∀(l:List Nat),(∀b∈l,b % 16≤4∧b / 16≤4)→bX l % 16≤4
 | [],_=>by decide
 |b::l,h=>by
  have:=(h b (.head _)).1
  show (bX l*256+b) % 16≤4
  omega
theorem Vf:∀(l:List Nat),(∀b∈l,b % 16≤4∧b / 16≤4)→((bX l / 16+bX l) &&& bX (l.map fun _=>15))=bX (l.map g3)
 | [],_=>rfl
 |b::l,h=>by
  obtain⟨h1,h2⟩:=h b (.head _)
  have ih:=Vf l (fun x hx=>h x (.tail _ hx))
  have hm:=abh l (fun x hx=>h x (.tail _ hx))
  show (((bX l*256+b) / 16+(bX l*256+b)) &&& (bX (l.map fun _=>15)*256+15))=bX (l.map g3)*256+g3 b
  have tb:b=b / 16*16+b % 16:=by omega
  obtain⟨f1,f2⟩:=aht _ h2 _ h1 _ hm
  rw[← tb]at f1 f2
  have e:(bX l*256+b) / 16+(bX l*256+b)=(bX l / 16+bX l)*256+(bX l % 16*16+(b / 16+b)):=by omega
  rw[e,C7 _ _ _ _ f2 (by decide),f1,ih]
def vw(x:Nat):List Nat:=[x % 256,x / 256 % 256,x / 65536 % 256,x / 16777216 % 256,x / 4294967296 % 256,x / 1099511627776 % 256,x / 281474976710656 % 256,x / 72057594037927936 % 256]
theorem Rl{x:Nat}(h:x<18446744073709551616):bX (vw x)=x:=by
 unfold vw bX bX bX bX bX bX bX bX bX
 omega
theorem LH(x:Nat):∀b∈vw x,b<256:=by
 intro b hb
 simp only[vw,eB,Al,or_false]at hb
 omega
def ub(x:Nat):Nat:=((vw x).map vN).sum
theorem ae3(x:Nat):ub x≤64:=by
 have h:=LH x
 unfold ub vw at *
 simp only[pq,List.map_nil,Kb,List.sum_nil,eB,Al,or_false,forall_eq_or_imp,forall_eq]at *
 obtain⟨h0,h1,h2,h3,h4,h5,h6,h7⟩:=h
 have:=vd _ h0
 have:=vd _ h1
 have:=vd _ h2
 have:=vd _ h3
 have:=vd _ h4
 have:=vd _ h5
 have:=vd _ h6
 have:=vd _ h7
 omega
theorem aa0{x:Nat}(hx:x<18446744073709551616)(h:ub x=0):x=0:=by
 have hb:=LH x
 have hv:=Rl hx
 unfold ub at h
 generalize vw x=l at *
 have hz:∀b∈l,b=0:=by
  intro b hm
  refine aa1 b (hb b hm) ?_
  have hle:∀(l:List Nat),b∈l→vN b≤(l.map vN).sum:=by
   intro l
   induction l with
   |nil=>intro h;cases h
   |cons c l ih=>
    intro h
    rw[pq,Kb]
    rcases eB.1 h with rfl | h
    ·omega
    ·have:=ih h;omega
  have:=hle l hm
  omega
 have:∀(l:List Nat),(∀b∈l,b=0)→bX l=0:=by
  intro l
  induction l with
  |nil=>intro _;rfl
  |cons b l ih=>
   intro h
   show bX l*256+b=0
   rw[ih (fun x hx=>h x (.tail _ hx)),h b (.head _)]
 rw[← hv,this l hz]
theorem ahn{e0 e1 e2 e3 e4 e5 e6 e7 x3 y1 y2 y3:Nat}(h:e0≤8∧e1≤8∧e2≤8∧e3≤8∧e4≤8∧e5≤8∧e6≤8∧e7≤8)(hx:x3=bX [e0,e1,e2,e3,e4,e5,e6,e7])(h1:y1=x3+x3 / 256)(h2:y2=y1+y1 / 65536)(h3:y3=y2+y2 / 4294967296):y3 % 128=e0+e1+e2+e3+e4+e5+e6+e7∧y3<9223372036854775808∧y2<18446744073709551616∧y1<18446744073709551616:=by
 obtain⟨k0,k1,k2,k3,k4,k5,k6,k7⟩:=h
 obtain⟨T1,Pf⟩:∃T,T=bX [e1,e2,e3,e4,e5,e6,e7]:=⟨_,rfl⟩
 obtain⟨T2,FG⟩:∃T,T=bX [e2,e3,e4,e5,e6,e7]:=⟨_,rfl⟩
 obtain⟨T3,Pe⟩:∃T,T=bX [e3,e4,e5,e6,e7]:=⟨_,rfl⟩
 obtain⟨T4,Pd⟩:∃T,T=bX [e4,e5,e6,e7]:=⟨_,rfl⟩
 obtain⟨T5,Pc⟩:∃T,T=bX [e5,e6,e7]:=⟨_,rfl⟩
 obtain⟨T6,Pb⟩:∃T,T=bX [e6,e7]:=⟨_,rfl⟩
 obtain⟨T7,Pa⟩:∃T,T=bX [e7]:=⟨_,rfl⟩
 have hx:x3=T1*256+e0:=by rw[hx,Pf];rfl
 have t1:T1=T2*256+e1:=by rw[Pf,FG];rfl
 have t2:T2=T3*256+e2:=by rw[FG,Pe];rfl
 have t3:T3=T4*256+e3:=by rw[Pe,Pd];rfl
 have t4:T4=T5*256+e4:=by rw[Pd,Pc];rfl
 have t5:T5=T6*256+e5:=by rw[Pc,Pb];rfl
 have t6:T6=T7*256+e6:=by rw[Pb,Pa];rfl
 have t7:T7=e7:=by rw[Pa];exact dR _
 clear Pf FG Pe Pd Pc Pb Pa
 have d1:x3 / 256=T1:=by clear h1 h2 h3 t1 t2 t3 t4 t5 t6 t7;omega
 have u1:y1=(T2+T3)*65536+(e1*256+e2*256+e0+e1):=by rw[h1,d1];clear h1 h2 h3 d1 t3 t4 t5 t6 t7;omega
 have d2:y1 / 65536=T2+T3:=by clear h1 h2 h3 t1 t2 t3 t4 t5 t6 t7 d1 hx;omega
 have u2:y2=(T4+T5+T6+T7)*4294967296+((e0+e1+e2+e3)+(e1+e2+e3+e4)*256+(e2+e3+e4+e5)*65536+(e3+e4+e5+e6)*16777216):=by rw[h2,d2,u1];clear h1 h2 h3 d1 d2 u1 hx t7;omega
 have d3:y2 / 4294967296=T4+T5+T6+T7:=by clear h1 h2 h3 t1 t2 t3 t4 t5 t6 t7 d1 d2 hx u1;omega
 have u3:y3=(T4+T5+T6+T7)*4294967296+((e0+e1+e2+e3)+(e1+e2+e3+e4)*256+(e2+e3+e4+e5)*65536+(e3+e4+e5+e6)*16777216)+(T4+T5+T6+T7):=by rw[h3,d3,u2]
 have b7:T7≤8:=by omega
 have b6:T6≤2056:=by clear u1 u2 u3 d1 d2 d3 h1 h2 h3 hx;omega
 have b5:T5≤526344:=by clear u1 u2 u3 d1 d2 d3 h1 h2 h3 hx;omega
 have b4:T4≤134744072:=by clear u1 u2 u3 d1 d2 d3 h1 h2 h3 hx;omega
 have b3:T3≤34494482440:=by clear u1 u2 u3 d1 d2 d3 h1 h2 h3 hx;omega
 have b2:T2≤8830587504648:=by clear u1 u2 u3 d1 d2 d3 h1 h2 h3 hx;omega
 refine⟨?_,?_,?_,?_⟩
 ·clear u1 u2 d1 d2 d3 h1 h2 h3 hx b2 b3 b4 b5 b6 b7 t1 t2 t3;omega
 ·clear u1 u2 d1 d2 d3 h1 h2 h3 hx t1 t2 t3 t4 t5 t6 t7;omega
 ·clear u1 u3 d1 d2 d3 h1 h2 h3 hx t1 t2 t3 t4 t5 t6 t7;omega
 ·clear u2 u3 d1 d2 d3 h1 h2 h3 hx t1 t2 t3 t4 t5 t6 t7;omega
set_option maxRecDepth 100000
theorem y4{z:Int}(h:bG z):(z.toNat:Int)=z:=by unfold bG at h;omega
theorem uc{z:Int}(h:bG z):z.toNat<18446744073709551616:=by unfold bG at h;omega
theorem adz{n:Nat}(h:n<18446744073709551616):bG (n:Int):=by unfold bG;omega
theorem rp{a b:Nat}(ha:a<18446744073709551616)(hb:b<18446744073709551616):bits .and .u64 (a:Int) (b:Int)=((a &&& b:Nat):Int):=by
 show IntKind.u64.wrap ((BitVec.ofInt 64 (a:Int) &&& BitVec.ofInt 64 (b:Int)).toNat:Int)=_
 rw[BitVec.toNat_and,BitVec.ofInt_natCast,BitVec.ofInt_natCast,BitVec.toNat_ofNat,BitVec.toNat_ofNat,uI ha,uI hb,IntKind.wrap_u64]
 have:a &&& b≤a:=FY
 omega
theorem tB{a b:Nat}(ha:a<18446744073709551616)(hb:b<18446744073709551616):bits .or .u64 (a:Int) (b:Int)=((a ||| b:Nat):Int):=by
 show IntKind.u64.wrap ((BitVec.ofInt 64 (a:Int) ||| BitVec.ofInt 64 (b:Int)).toNat:Int)=_
 rw[BitVec.toNat_or,BitVec.ofInt_natCast,BitVec.ofInt_natCast,BitVec.toNat_ofNat,BitVec.toNat_ofNat,uI ha,uI hb,IntKind.wrap_u64]
 have:a ||| b<2 ^ 64:=Kr ha hb
 have l8:(2:Nat) ^ 64=18446744073709551616:=by decide
 omega
theorem Ho(a:Nat)(k:Nat)(j:Int)(hj:min j.toNat IntKind.u64.bits=k):(a:Int).fdiv (2 ^ min j.toNat IntKind.u64.bits)=((a / 2 ^ k:Nat):Int):=by
 rw[hj,Int.fdiv_eq_ediv_of_nonneg _ (Int.pow_nonneg (by decide)),Int.natCast_ediv,Int.natCast_pow];rfl
theorem Mi:∀(l:List Nat),(∀b∈l,b<256)→bX l<256 ^ l.length
 | [],_=>by decide
 |b::l,h=>by
  have:=Mi l (fun x hx=>h x (.tail _ hx))
  have hb:=h b (.head _)
  show bX l*256+b<256 ^ (l.length+1)
  rw[Nat.pow_succ]
  omega
def oA(k m x:Int):Int:=IntKind.u64.wrap (bits .and .u64 (x.fdiv (2 ^ min k.toNat IntKind.u64.bits)) m+bits .and .u64 x m)
def oB(x:Int):Int:=bits .and .u64 (IntKind.u64.wrap (x.fdiv (2 ^ min (4:Int).toNat IntKind.u64.bits)+x)) 1085102592571150095
def oC(k x:Int):Int:=IntKind.u64.wrap (x+x.fdiv (2 ^ min k.toNat IntKind.u64.bits))
def oD(x:Int):Int:=bits .and .i64 (IntKind.i64.wrap x) 127
theorem zb{n:Nat}(h:n<18446744073709551616):IntKind.u64.wrap (n:Int)=n:=by rw[IntKind.wrap_u64];omega
theorem ago(n:Nat)(h:n<9223372036854775808):oD (n:Int)=((n % 128:Nat):Int):=by
 unfold oD
 rw[show IntKind.i64.wrap (n:Int)=n by rw[IntKind.wrap_i64];omega]
 show IntKind.i64.wrap ((BitVec.ofInt 64 (n:Int) &&& BitVec.ofInt 64 (127:Int)).toNat:Int)=_
 rw[BitVec.toNat_and,BitVec.ofInt_natCast,BitVec.toNat_ofNat,uI (show n<2 ^ 64 from FQ h (by decide)),show (BitVec.ofInt 64 (127:Int)).toNat=2 ^ 7-1 by decide,PK,IntKind.wrap_i64]
 have:(2:Nat) ^ 7=128:=by decide
 omega
theorem abT{n:Nat}(h:n<18446744073709551616):oD (oC 32 (oC 16 (oC 8 (oB (oA 2 3689348814741910323 (oA 1 6148914691236517205 (n:Int)))))))=(ub n:Int):=by
 have hb:=LH n
 have hv:=Rl h
 obtain⟨l,hl⟩:∃l,l=vw n:=⟨_,rfl⟩
 have hlen:l.length=8:=by rw[hl];rfl
 rw[← hl]at hb hv
 have N7:(256:Nat) ^ 8=18446744073709551616:=by decide
 have mC:∀b∈l.map g1,b<256:=fun b hm=>by
  obtain⟨c,hc,rfl⟩:=dT.1 hm
  have:=aco c (hb c hc);omega
 have sf:∀b∈(l.map g1).map g2,b % 16≤4∧b / 16≤4:=fun b hm=>by
  obtain⟨c,hc,rfl⟩:=dT.1 hm
  obtain⟨d,hd,rfl⟩:=dT.1 hc
  exact acn d (hb d hd)
 have ait:∀b∈(l.map g1).map g2,b<256:=fun b hm=>by have:=sf b hm;omega
 have m1:bX (l.map fun _=>85)=6148914691236517205:=by rw[Kk,hlen];rfl
 have m2:bX ((l.map g1).map fun _=>51)=3689348814741910323:=by rw[Kk,cg,hlen];rfl
 have m3:bX (((l.map g1).map g2).map fun _=>15)=1085102592571150095:=by rw[Kk,cg,cg,hlen];rfl
 have s1:=Vh l hb
 have s2:=Vg (l.map g1) mC
 have s3:=Vf ((l.map g1).map g2) sf
 rw[m1,hv]at s1
 rw[m2]at s2
 rw[m3]at s3
 have l1:=Mi _ mC
 have l2:=Mi _ ait
 rw[cg,hlen,N7]at l1
 rw[cg,cg,hlen,N7]at l2
 have hA:∀(x m y k:Nat) (j:Int),min j.toNat IntKind.u64.bits=k→x<18446744073709551616→m<18446744073709551616→(x / 2 ^ k &&& m)+(x &&& m)=y→y<18446744073709551616→oA j (m:Int) (x:Int)=(y:Int):=by
  intro x m y k j hj hx hm hy wx
  unfold oA
  rw[Ho x k j hj,rp (yx (Nat.div_le_self _ _) hx) hm,rp hx hm,← uG,hy]
  exact zb wx
 have e1:=hA n 6148914691236517205 _ 1 1 rfl h (by decide) s1 l1
 have e2:=hA _ 3689348814741910323 _ 2 2 rfl l1 (by decide) s2 l2
 have sc:bX ((l.map g1).map g2) / 16+bX ((l.map g1).map g2)<18446744073709551616:=by
  have hz:∀(q:List Nat),(∀b∈q,b % 16≤4∧b / 16≤4)→bX q*2<256 ^ q.length∨q=[]:=by
   intro q
   induction q with
   |nil=>intro _;exact .inr rfl
   |cons b q ih=>
    intro h
    have hb:=h b (.head _)
    refine .inl ?_
    show (bX q*256+b)*2<256 ^ (q.length+1)
    rw[Nat.pow_succ]
    rcases ih (fun x hx=>h x (.tail _ hx)) with h1 | rfl
    ·omega
    ·show (0*256+b)*2<256 ^ 0*256
     omega
  rcases hz _ sf with h1 | h1
  ·rw[cg,cg,hlen,N7]at h1
   omega
  ·have:=congrArg List.length h1
   rw[cg,cg,hlen]at this
   cases this
 have e3:oB (bX ((l.map g1).map g2):Int)=(bX (((l.map g1).map g2).map g3):Int):=by
  unfold oB
  rw[Ho _ 4 4 rfl,← uG,show (2:Nat) ^ 4=16 by decide,zb sc]
  have:=rp (b:=1085102592571150095) sc (by decide)
  rw[s3]at this
  exact this
 have hC:∀(x k:Nat) (j:Int),min j.toNat IntKind.u64.bits=k→x+x / 2 ^ k<18446744073709551616→oC j (x:Int)=((x+x / 2 ^ k:Nat):Int):=by
  intro x k j hj hx
  unfold oC
  rw[Ho x k j hj,← uG]
  exact zb hx
 have aia:((l.map g1).map g2).map g3=l.map vN:=by simp[vN,Function.comp_def]
 rw[aia]at e3
 obtain⟨e0,f1,f2,f3,f4,f5,f6,f7,hq,ai3,hle⟩:∃e0 e1 e2 e3 e4 e5 e6 e7,l.map vN=[e0,e1,e2,e3,e4,e5,e6,e7]∧ub n=e0+e1+e2+e3+e4+e5+e6+e7∧(e0≤8∧e1≤8∧e2≤8∧e3≤8∧e4≤8∧e5≤8∧e6≤8∧e7≤8):=by
  refine⟨_,_,_,_,_,_,_,_,by rw[hl];rfl,?_,?_⟩
  ·unfold ub vw
   simp only[pq,List.map_nil,Kb,List.sum_nil]
   omega
  ·refine⟨?_,?_,?_,?_,?_,?_,?_,?_⟩ <;> exact vd _ (ob _ (by decide))
 obtain⟨X,hX⟩:∃X,X=bX (l.map vN):=⟨_,rfl⟩
 rw[← hX]at e3
 rw[hq]at hX
 obtain⟨g1',g2',g3',g4'⟩:=ahn hle hX rfl rfl rfl
 have e4:=hC X 8 8 rfl g4'
 have e5:=hC (X+X / 256) 16 16 rfl g3'
 have e6:=hC (X+X / 256+(X+X / 256) / 65536) 32 32 rfl (FQ g2' (by decide))
 have ON:oA 1 6148914691236517205 (n:Int)=_:=e1
 rw[ON]
 have uw:oA 2 3689348814741910323 (bX (l.map g1):Int)=_:=e2
 rw[uw,e3,e4]
 have e5:oC 16 ((X+X / 256:Nat):Int)=_:=e5
 have e6:oC 32 ((X+X / 256+(X+X / 256) / 65536:Nat):Int)=_:=e6
 rw[show ((X+X / 2 ^ 8:Nat):Int)=((X+X / 256:Nat):Int) from rfl,e5,show ((X+X / 256+(X+X / 256) / 2 ^ 16:Nat):Int)=((X+X / 256+(X+X / 256) / 65536:Nat):Int) from rfl,e6]
 rw[ago _ g2',ai3,← g1']
theorem ahD{x:Int}(h:bG x)(σ:Hp):ACalls Tryz.prog 306 [.int .u64 x] σ (ay (.int .i64 (ub x.toNat)) σ):=by
 refine ar Tryz.func306 ?_
 have hv:=abT (uc h)
 rw[y4 h]at hv
 refine aG.mk (by decide) ?_
 refine eD ?_
 refine eD ?_
 refine eD ?_
 refine eD ?_
 refine eD ?_
 exact .done ⟨aQ hv,rfl⟩
def hasB(a:List Int)(n:Nat):Bool:=(wd a (n / 64)).toNat.testBit (n % 64)
def dD(f:Int→Int→Int)(a b:List Int):List Int:=(List.range (max a.length b.length)).map fun i=>f (wd a i) (wd b i)
theorem ql(f:Int→Int→Int)(a b:List Int):(dD f a b).length=max a.length b.length:=by simp[dD]
theorem yY(f:Int→Int→Int)(a b:List Int){i:Nat}(h:i<max a.length b.length):wd (dD f a b) i=f (wd a i) (wd b i):=by
 unfold dD wd
 rw[fm,tf h]
 rfl
theorem yZ{a:List Int}{i:Nat}(h:a.length≤i):wd a i=0:=by unfold wd;rw[uN h];rfl
theorem kZ(b:List Int){i:Nat}(h:i<b.length):wd b i=b[i]:=by unfold wd;rw[bh h];rfl
theorem zc{a b:List Int}(hl:a.length=b.length)(h:∀i,i<a.length→wd a i=wd b i):a=b:=by
 refine As hl fun i h1 h2=>?_
 have:=h i h1
 rw[kZ a h1,kZ b h2]at this
 exact this
theorem DU{n:Nat}{f:Nat→Int}(h:∀i,i<n→bG (f i)):aR ((List.range n).map f):=fun z hz=>by
 obtain⟨i,hi,rfl⟩:=dT.1 hz
 exact h i (gy.1 hi)
abbrev iA(x y:Int):Int:=bits .or .u64 x y
abbrev fL(x y:Int):Int:=bits .andNot .u64 x y
theorem Vs(x y:Int):bG (iA x y):=Dv _
theorem Ip(x y:Int):bG (fL x y):=Dv _
theorem toNat_ofInt{z:Int}(h:bG z):(BitVec.ofInt 64 z).toNat=z.toNat:=by
 have:=uc h
 rw[BitVec.toNat_ofInt]
 unfold bG at h
 omega
theorem Mu{x y:Int}(hx:bG x)(hy:bG y)(k:Nat):(iA x y).toNat.testBit k=(x.toNat.testBit k||y.toNat.testBit k):=by
 have e:iA x y=((BitVec.ofInt 64 x ||| BitVec.ofInt 64 y).toNat:Int):=by
  show IntKind.u64.wrap _=_
  exact zb (BitVec.isLt _)
 rw[e,bC,BitVec.toNat_or,Kg,toNat_ofInt hx,toNat_ofInt hy]
theorem HX{x y:Int}(hx:bG x)(hy:bG y){k:Nat}(hk:k<64):(fL x y).toNat.testBit k=(x.toNat.testBit k&&!y.toNat.testBit k):=by
 have e:fL x y=((BitVec.ofInt 64 x &&& ~~~BitVec.ofInt 64 y).toNat:Int):=by
  show IntKind.u64.wrap _=_
  exact zb (BitVec.isLt _)
 rw[e,bC,BitVec.testBit_toNat,BitVec.getLsbD_and,BitVec.getLsbD_not,aT hk,wR,← BitVec.testBit_toNat,← BitVec.testBit_toNat,toNat_ofInt hx,toNat_ofInt hy]
def fZ(T:List Int)(n:Nat):List Int:=(List.range T.length).map fun i=>(((wd T i).toNat % 2 ^ min 64 (n-64*i):Nat):Int)
theorem qm(T:List Int)(n:Nat):(fZ T n).length=T.length:=by simp[fZ]
theorem zf(T:List Int)(n:Nat){i:Nat}(h:i<T.length):wd (fZ T n) i=(((wd T i).toNat % 2 ^ min 64 (n-64*i):Nat):Int):=by
 unfold fZ
 unfold wd
 rw[fm,tf h]
 rfl
theorem Hd(T:List Int):fZ T 0=List.replicate T.length 0:=by
 refine List.ext_getElem (by simp[fZ]) fun i h1 h2=>?_
 rw[List.getElem_replicate,← kZ _ h1,zf T 0 (by simpa [fZ]using h1),Nat.zero_sub,Nat.min_zero,Nat.pow_zero,Nat.mod_one]
 rfl
theorem Ut{T:List Int}(hT:aR T):fZ T (64*T.length)=T:=by
 refine zc (qm _ _) fun i hi=>?_
 rw[qm]at hi
 rw[zf T _ hi,show min 64 (64*T.length-64*i)=64 by omega]
 have h:=lp hT i
 rw[uI (uc h),y4 h]
theorem mod_succ(x k:Nat):x % 2 ^ (k+1)=if x.testBit k then x % 2 ^ k ||| 2 ^ k else x % 2 ^ k:=by
 refine Cy fun i=>?_
 cases hb:x.testBit k with
 |false=>
  rw[ag (by decide),KD,KD]
  by_cases h1:i<k
  ·rw[aT (show i<k+1 by omega),aT h1]
  ·by_cases h2:i=k
   ·subst h2;rw[hb];simp
   ·rw[bS (show ¬i<k+1 by omega),bS h1]
 |true=>
  rw[ah rfl,Kg,KD,KD,Px]
  by_cases h1:i<k
  ·rw[decide_eq_true (show i<k+1 by omega),decide_eq_true h1,decide_eq_false (show ¬k=i by omega)];simp
  ·by_cases h2:i=k
   ·subst h2;rw[hb];simp
   ·rw[bS (show ¬i<k+1 by omega),bS h1,bS (show ¬k=i by omega)];rfl
theorem LU{T:List Int}{n:Nat}(h:n<64*T.length):fZ T (n+1)=if hasB T n then (fZ T n).set (n / 64) (iA (wd (fZ T n) (n / 64)) ((2 ^ (n % 64):Nat):Int)) else fZ T n:=by
 have hi:n / 64<T.length:=by omega
 have hk:n % 64<64:=ob _ (by decide)
 have ab:∀m,(wd T (n / 64)).toNat % 2 ^ min 64 m<18446744073709551616:=fun m=>by
  have h1:(wd T (n / 64)).toNat % 2 ^ min 64 m<2 ^ min 64 m:=ob _ (Cq _)
  have h2:2 ^ min 64 m≤2 ^ 64:=uM (by decide) (Nat.min_le_left _ _)
  have h3:(2:Nat) ^ 64=18446744073709551616:=by decide
  omega
 have hp:2 ^ (n % 64)<18446744073709551616:=by
  have h2:2 ^ (n % 64)<2 ^ 64:=Nat.pow_lt_pow_right (by decide) hk
  exact h2
 have e1:min 64 (n-64*(n / 64))=n % 64:=by omega
 have e2:min 64 (n+1-64*(n / 64))=n % 64+1:=by omega
 have hm:=mod_succ (wd T (n / 64)).toNat (n % 64)
 have Vx:∀i,i≠n / 64→min 64 (n+1-64*i)=min 64 (n-64*i):=fun i aX=>by omega
 unfold hasB
 refine zc ?_ fun i JY=>?_
 ·rw[qm]
  split
  ·rw[cR,qm]
  ·rw[qm]
 ·rw[qm]at JY
  rw[zf T _ JY]
  cases hb:(wd T (n / 64)).toNat.testBit (n % 64) with
  |true=>
   rw[hb,ah rfl]at hm
   rw[ah rfl]
   by_cases hc:i=n / 64
   ·subst hc
    have hs:wd ((fZ T n).set (n / 64) (iA (wd (fZ T n) (n / 64)) ((2 ^ (n % 64):Nat):Int))) (n / 64)=iA (wd (fZ T n) (n / 64)) ((2 ^ (n % 64):Nat):Int):=by
     unfold wd
     rw[List.getElem?_set_self (by rw[qm];exact hi)];rfl
    have aii:=ab (n-64*(n / 64))
    rw[hs,zf T n hi,show iA _ _=_ from tB aii hp,e2,e1,hm]
   ·have hs:wd ((fZ T n).set (n / 64) (iA (wd (fZ T n) (n / 64)) ((2 ^ (n % 64):Nat):Int))) i=wd (fZ T n) i:=by
     unfold wd
     rw[List.getElem?_set_ne (fun h=>hc h.symm)]
    rw[hs,zf T n JY,Vx i hc]
  |false=>
   rw[hb,ag (by decide)]at hm
   rw[ag (by decide),zf T n JY]
   by_cases hc:i=n / 64
   ·subst hc
    rw[e2,e1,hm]
   ·rw[Vx i hc]
def eE(w:Int):Nat:=(min (max w 0) 1024).toNat
def ef(w:Int):Nat:=(eE w+63) / 64
theorem HT(w:Int):eE w≤1024:=by unfold eE;omega
theorem AW(w:Int):ef w≤16:=by have:=HT w;unfold ef;omega
theorem TL(n:Int):(if (1024:Int)<(if n<0 then 0 else n) then (1024:Int) else (if n<0 then 0 else n))=((eE n:Nat):Int):=by
 unfold eE
 by_cases h:n<0
 ·simp only[ah h];omega
 ·simp only[ag h];split <;> omega
def fg(w:Int):List Int:=(List.range (ef w)).map fun i=>((2 ^ min 64 (eE w-64*i)-1:Nat):Int)
theorem np(w:Int):(fg w).length=ef w:=by simp[fg]
theorem Dq(w:Int){i:Nat}(h:i<ef w):wd (fg w) i=((2 ^ min 64 (eE w-64*i)-1:Nat):Int):=by
 unfold fg wd
 rw[fm,tf h]
 rfl
theorem ah0(m:Nat):2 ^ min 64 m≤18446744073709551616:=uM (by decide) (Nat.min_le_left _ _)
theorem TA(w:Int):aR (fg w):=DU fun i _=>adz (by
 have:=ah0 (eE w-64*i)
 have:=Cq (min 64 (eE w-64*i))
 omega)
def gE(a:List Int)(w:Int):Bool:=decide (a.length=ef w)&&(List.range a.length).all fun i=>decide ((wd a i).toNat<2 ^ min 64 (eE w-64*i))
theorem aav{a:List Int}{w:Int}(l8:aR a)(hl:a.length=ef w):gE a w=true↔∀n,eE w≤n→n<64*a.length→hasB a n=false:=by
 unfold gE hasB
 rw[aT hl,wR,fK]
 constructor
 ·intro h n h1 h2
  have hi:n / 64<a.length:=by omega
  have:=h (n / 64) (gy.2 hi)
  simp only[decide_eq_true_eq]at this
  refine wT (sl this (uM (by decide) ?_))
  omega
 ·intro h i hi
  have hi:=gy.1 hi
  rw[decide_eq_true_eq]
  have Xk:=uc (lp l8 i)
  rcases wQ (eE w-64*i) 64 with hc | hc
  ·rw[Nat.min_eq_right (by omega)]
   refine Nat.lt_pow_two_of_testBit _ fun k hk=>?_
   rcases wQ k 64 with ei | ei
   ·have:=h (64*i+k) (by omega) (by omega)
    rw[show (64*i+k) / 64=i by omega,show (64*i+k) % 64=k by omega]at this
    exact this
   ·refine wT (sl Xk ?_)
    exact uM (by decide:0<2) ei
  ·rw[Ky hc]
   exact Xk
theorem aau{a:List Int}{w:Int}(l8:aR a)(hl:a.length=ef w):gE a w=true↔∀i,i<a.length→fL (wd a i) (wd (fg w) i)=0:=by
 unfold gE
 rw[aT hl,wR,fK]
 have hf:∀i,i<a.length→((wd a i).toNat<2 ^ min 64 (eE w-64*i)↔fL (wd a i) (wd (fg w) i)=0):=by
  intro i hi
  have ha:=lp l8 i
  have hb:=lp (TA w) i
  have hn:(wd (fg w) i).toNat=2 ^ min 64 (eE w-64*i)-1:=by rw[Dq w (by omega),bC]
  constructor
  ·intro h
   have hz:(fL (wd a i) (wd (fg w) i)).toNat=0:=by
    refine Cy fun k=>?_
    rw[Nat.zero_testBit]
    rcases wQ k 64 with hk | hk
    ·rw[HX ha hb hk,hn,KF]
     by_cases ei:k<min 64 (eE w-64*i)
     ·rw[decide_eq_true ei];simp
     ·rw[wT (sl h (uM (by decide) (by omega)))];rfl
    ·exact wT (sl (uc (Ip _ _)) (uM (by decide:0<2) hk))
   have:=y4 (Ip (wd a i) (wd (fg w) i))
   omega
  ·intro h
   refine Nat.lt_pow_two_of_testBit _ fun k hk=>?_
   rcases wQ k 64 with ei | ei
   ·have hz:=HX ha hb ei
    rw[h,hn,KF,bS (by omega)]at hz
    have h0:(0:Int).toNat.testBit k=false:=Nat.zero_testBit k
    rw[h0]at hz
    simpa using hz.symm
   ·exact wT (sl (uc ha) (uM (by decide:0<2) ei))
 constructor
 ·intro h i hi
  exact (hf i hi).1 (by simpa using h i (List.mem_range.2 hi))
 ·intro h i hi
  have hi:=gy.1 hi
  rw[decide_eq_true_eq]
  exact (hf i hi).2 (h i hi)
end Go.Proofs.YtnikdflhefijbaaGreat
