import Derived.Test.YtnikdflhefijbaaGreatBq6
namespace Go.Proofs.YtnikdflhefijbaaGreat
open Go.RowKit
def yx(ws:List Int)(a:Int):Bool:=decide (0≤a)&&decide (a<ws.length)
def gY(ws:List Int)(a:Int):Int:=if a<0 then 0 else ws.getD a.toNat 0
def iE(ws:List Int)(a x:Int):List Int:=if a<0 then ws else ws.set a.toNat x
def sl(n:Int):Nat:=(min (max n 0) 1048576).toNat
theorem afP(n:Int):sl n≤1048576:=by unfold sl;omega
theorem DE{ws:List Int}{a:Int}(h:0≤a)(h1:a<ws.length):yx ws a=true:=by simp[yx,h,h1]
theorem HZ(a n:Int)(h:0≤a)(h1:a<n):(decide (0≤a)&&decide (a<n))=true:=by simp[h,h1]
theorem HF(a n:Int)(h:¬(0≤a∧a<n)):(decide (0≤a)&&decide (a<n))=false:=by simp;omega
theorem oS{ws:List Int}{a:Nat}:gY ws (a:Int)=ws.getD a 0:=by
 unfold gY;rw[ag (by omega)];rfl
theorem abk{ws:List Int}{a:Int}(h:¬(0≤a∧a<(ws.length:Int))):gY ws a=0:=by
 unfold gY;split
 ·rfl
 ·rw[List.getD,vJ (by omega)];rfl
theorem lX{ws:List Int}{a:Nat}(x:Int):iE ws (a:Int) x=ws.set a x:=by
 unfold iE;rw[ag (by omega)];rfl
theorem ZK{ws:List Int}{a x:Int}(h:¬(0≤a∧a<(ws.length:Int))):iE ws a x=ws:=by
 unfold iE;split
 ·rfl
 ·exact List.set_eq_of_length_le (by omega)
theorem AZ(ws:List Int)(a x:Int):(iE ws a x).length=ws.length:=by unfold iE;split <;> simp
def oc(ws:List Int)(a old:Int):Bool:=yx ws a&&(gY ws a == old)
def jy(ws:List Int)(a old to:Int):List Int:=if oc ws a old then iE ws a to else ws
theorem xF(ws:List Int)(a o t:Int):(jy ws a o t).length=ws.length:=by unfold jy;split <;> simp[AZ]
def Fg(ws:List Int)(a d:Int):Int:=if yx ws a then (gY ws a+d) % 18446744073709551616 else 0
def nS(ws:List Int)(a d:Int):List Int:=if yx ws a then iE ws a ((gY ws a+d) % 18446744073709551616) else ws
theorem QP(ws:List Int)(a d:Int):(nS ws a d).length=ws.length:=by unfold nS;split <;> simp[AZ]
def uY(q n:Nat):List AV:=[.int .i64 n,.ae q 0 n 1]
theorem H7{ws:List Int}{k:Nat}(h:k<ws.length):(aR ws)[0+((k:Int)).toNat*1]?=some (.int .u64 (ws.getD k 0)):=by
 simp[aR,h,List.getD]
theorem aeC{ws:List Int}{k:Nat}(x:Int):(aR ws).set k (.int .u64 x)=aR (ws.set k x):=by simp[aR,List.map_set]
theorem MK{ws:List Int}{k:Nat}(x:Int)(h:k<ws.length):kO ⟨.int .u64,1,8,[.int .u64 0]⟩ (aR ws) (0+((k:Int)).toNat*1) (.int .u64 x)=some (aR (ws.set k x)):=by
 have e:0+((k:Int)).toNat*1=k:=by omega
 have h2:Nat.ble (k+1) (aR ws).length=true:=Nat.ble_eq_true_of_le (by simp[aR];omega);rw[e];show (match Nat.beq 1 1,Nat.ble (k+1) (aR ws).length with | true,true=>some (fx (aR ws) k [.int .u64 x]) | _,_=>none)=_;rw[h2];show some ((aR ws).set k (.int .u64 x))=_;rw[aeC]
set_option maxRecDepth 100000
theorem J1(n a:Int)(σ:Hp):ACalls Tryz.prog 387 [.agg [.int .i64 n],.int .i64 a] σ (aC (.bool (decide (0≤a)&&decide (a<n))) σ):=by
 refine ay Tryz.func387 ?_;intro b;refine ao (fun h=>?_) (fun h=>?_)
 ·refine aa 0 ?_;refine ao (fun h2=>?_) (fun h2=>?_)
  ·exact .drop 0 1 (.done ⟨cY (by simp[h,h2]),rfl⟩)
  ·exact .drop 0 1 (.done ⟨cY (by simp[h2]),rfl⟩)
 ·exact .drop 0 1 (.done ⟨cY (by simp[h]),rfl⟩)
theorem Yi(n:Int)(σ:Hp):ACalls Tryz.prog 155 [.int .i64 n] σ (aC (.agg [.int .i64 (sl n)]) σ):=by
 refine ay Tryz.func155 ?_;intro b;refine aj 0 ?_;refine aa 0 ?_;refine .drop 0 1 (.done ⟨?_,rfl⟩);show AV.agg [.int .i64 (if (1048576:Int)<(if n<0 then 0 else n) then 1048576 else (if n<0 then 0 else n))]=_
 have e:(if (1048576:Int)<(if n<0 then 0 else n) then 1048576 else (if n<0 then 0 else n))=((sl n:Nat):Int):=by
  unfold sl
  by_cases h:n<0
  ·simp only[af h];omega
  ·simp only[ag h];split <;> omega
 rw[e]
theorem ajU(n:Int)(σ:Hp):ACalls Tryz.prog 90 [.int .i64 n] σ (fun r σ'=>∃p q,r=.ptr p 0∧σ'=(p,uY q (sl n))::(q,aR (List.replicate (sl n) 0))::σ):=by
 have hc:=afP n;refine ay Tryz.func90 ?_;refine ax [] (Yi n σ) ?_;refine ax [] (Yi n σ) ?_;refine aJ.mk ⟨by omega,kl _,by omega,by decide⟩ ?_;intro q p;refine .done ⟨p,q,rfl,?_⟩;show (p,_)::(q,_)::σ=_;rw[show ((sl n:Int)).toNat=sl n by omega,show (cI [AV.int .u64 0] (sl n))=_ from x7 _];rfl
theorem aLoad(p q:Nat)(ws:List Int)(a:Int)(σ:Hp):ACalls Tryz.prog 385 [.ptr p 0,.int .i64 a] ((p,uY q ws.length)::(q,aR ws)::σ) (aC (.int .u64 (gY ws a)) ((p,uY q ws.length)::(q,aR ws)::σ)):=by
 refine ay Tryz.func385 ?_;refine aa 0 ?_;refine ax [] (J1 ws.length a _) ?_
 by_cases hh:0≤a∧a<(ws.length:Int)
 ·rw[HZ a ws.length hh.1 hh.2];obtain⟨k,rfl⟩:=mY hh.1;have hk:k<ws.length:=by omega
  refine aa 0 ?_;refine aJ.mk ⟨rfl,hh.1,hh.2⟩ ?_;refine aW 1 rfl (H7 hk) ?_;exact .done ⟨aT oS.symm,rfl⟩
 ·rw[HF a ws.length hh];exact .done ⟨aT (abk hh).symm,rfl⟩
abbrev cm(p q:Nat)(ws:List Int)(σ:Hp):Hp:=(p,uY q ws.length)::(q,aR ws)::σ
theorem aStore(p q:Nat)(ws:List Int)(a x:Int)(σ:Hp):ACalls Tryz.prog 386 [.ptr p 0,.int .i64 a,.int .u64 x] (cm p q ws σ) (aC (.tup []) (cm p q (iE ws a x) σ)):=by
 refine ay Tryz.func386 ?_;refine aa 0 ?_;refine ax [] (J1 ws.length a _) ?_
 by_cases hh:0≤a∧a<(ws.length:Int)
 ·rw[HZ a ws.length hh.1 hh.2];obtain⟨k,rfl⟩:=mY hh.1;have hk:k<ws.length:=by omega
  refine aa 0 ?_;refine aJ.mk ⟨rfl,hh.1,hh.2⟩ ?_;refine cU 1 rfl (MK x hk) ?_;refine .done ⟨rfl,?_⟩;show (p,uY q ws.length)::(q,aR (ws.set k x))::σ=_;rw[lX];unfold cm;rw[cz]
 ·rw[HF a ws.length hh];refine .done ⟨rfl,?_⟩;rw[ZK hh];rfl
theorem aCas(p q:Nat)(ws:List Int)(a x y:Int)(σ:Hp):ACalls Tryz.prog 383 [.ptr p 0,.int .i64 a,.int .u64 x,.int .u64 y] (cm p q ws σ) (aC (.bool (oc ws a x)) (cm p q (jy ws a x y) σ)):=by
 refine ay Tryz.func383 ?_;refine aa 0 ?_;refine ax [] (J1 ws.length a _) ?_
 by_cases hh:0≤a∧a<(ws.length:Int)
 ·rw[HZ a ws.length hh.1 hh.2];have hH:=DE hh.1 hh.2;obtain⟨k,rfl⟩:=mY hh.1;have hk:k<ws.length:=by omega
  refine aa 0 ?_;refine aJ.mk ⟨rfl,hh.1,hh.2⟩ ?_;refine aW 1 rfl (H7 hk) ?_;refine dX (fun he=>?_) (fun he=>?_)
  ·have he:¬ws.getD k 0=x:=by simpa using he
   have e1:oc ws k x=false:=by unfold oc;rw[hH,oS];simpa using he
   refine .done ⟨by rw[e1];rfl,?_⟩;rw[show jy ws k x y=ws by simp[jy,e1]];rfl
  ·have he:ws.getD k 0=x:=by simpa using he
   have e1:oc ws k x=true:=by unfold oc;rw[hH,oS,he];simp
   refine aa 0 ?_;refine aJ.mk ⟨rfl,hh.1,hh.2⟩ ?_;refine cU 1 rfl (MK y hk) ?_;refine .done ⟨by rw[e1];rfl,?_⟩;show (p,uY q ws.length)::(q,aR (ws.set k y))::σ=_;rw[show jy ws k x y=ws.set k y by simp[jy,e1,lX]];unfold cm;rw[List.length_set]
 ·have hb:=HF a ws.length hh;rw[hb];have e1:oc ws a x=false:=by simp only[oc,yx,hb,KH]
  refine .done ⟨by rw[e1];rfl,?_⟩;rw[show jy ws a x y=ws by simp[jy,e1]];rfl
theorem aAdd(p q:Nat)(ws:List Int)(a d:Int)(σ:Hp):ACalls Tryz.prog 382 [.ptr p 0,.int .i64 a,.int .u64 d] (cm p q ws σ) (aC (.int .u64 (Fg ws a d)) (cm p q (nS ws a d) σ)):=by
 refine ay Tryz.func382 ?_;refine aa 0 ?_;refine ax [] (J1 ws.length a _) ?_
 by_cases hh:0≤a∧a<(ws.length:Int)
 ·rw[HZ a ws.length hh.1 hh.2];have hH:=DE hh.1 hh.2;obtain⟨k,rfl⟩:=mY hh.1;have hk:k<ws.length:=by omega
  have e1:Fg ws k d=IntKind.u64.wrap (ws.getD k 0+d):=by rw[IntKind.wrap_u64];simp only[Fg,hH,if_true,oS]
  have e2:nS ws k d=ws.set k (IntKind.u64.wrap (ws.getD k 0+d)):=by rw[IntKind.wrap_u64];simp only[nS,hH,if_true,oS,lX]
  refine aa 0 ?_;refine aJ.mk ⟨rfl,hh.1,hh.2⟩ ?_;refine aW 1 rfl (H7 hk) ?_;refine aJ.mk ⟨rfl,hh.1,hh.2⟩ ?_;refine cU 1 rfl (MK _ hk) ?_;refine aa 0 ?_;refine aJ.mk ⟨rfl,hh.1,hh.2⟩ ?_;refine aW 1 rfl (H7 (ws:=ws.set k (IntKind.u64.wrap (ws.getD k 0+d))) (by rw[cz];exact hk)) ?_;refine .done ⟨aT (by rw[e1];simp[List.getD,hk]),?_⟩;rw[e2];unfold cm;rw[cz];rfl
 ·have hb:=HF a ws.length hh;rw[hb];refine .done ⟨aT (by unfold Fg;unfold yx;rw[hb];rfl),?_⟩;rw[show nS ws a d=ws by unfold nS yx;rw[hb];rfl];rfl
theorem Ye(p q:Nat)(ws:List Int)(σ:Hp):ACalls Tryz.prog 384 [.ptr p 0] (cm p q ws σ) (aC (.int .i64 ws.length) (cm p q ws σ)):=by
 refine ay Tryz.func384 ?_;refine aa 0 ?_;exact .done ⟨rfl,rfl⟩
theorem mLen_ : Meth Tryz.prog 94 "Len" 384 := fun a w => by kernel_rfl
theorem mLoad_ : Meth Tryz.prog 94 "Load" 385 := fun a w => by kernel_rfl
theorem mStore_ : Meth Tryz.prog 94 "Store" 386 := fun a w => by kernel_rfl
theorem mCAS_ : Meth Tryz.prog 94 "CAS" 383 := fun a w => by kernel_rfl
theorem mAdd_ : Meth Tryz.prog 94 "Add" 382 := fun a w => by kernel_rfl
theorem hStore_ : AheadOk Tryz.prog 94 "Store" := fun a w => by kernel_rfl
theorem hCAS_ : AheadOk Tryz.prog 94 "CAS" := fun a w => by kernel_rfl
theorem hAdd_ : AheadOk Tryz.prog 94 "Add" := fun a w => by kernel_rfl
theorem hLoad_ : AheadOk Tryz.prog 94 "Load" := fun a w => by kernel_rfl
abbrev ny(p:Nat):AV:=.iface 94 (.ptr p 0)
theorem ec(t:Nat)(x:AV)(σ:Hp):ACalls Tryz.prog 110 [.iface t x] σ (aC (.iface t x) σ):=by
 refine ay Tryz.func110 ?_;exact .done ⟨rfl,rfl⟩
structure kC where
 A:Type
 ld:A→Int→Int×A
 st:A→Int→Int→A
 cs:A→Int→Int→Int→Bool×A
 ad:A→Int→Int→Int×A
 ln:A→Int
 free:A→Prop
abbrev bJ:kC where
 A:=List Int
 ld ws a:=(gY ws a,ws)
 st ws a x:=iE ws a x
 cs ws a x y:=(oc ws a x,jy ws a x y)
 ad ws a d:=(Fg ws a d,nS ws a d)
 ln ws:=ws.length
 free _:=True
structure AMem where
 O:kC
 S:Type
 abs:S→O.A
 B:S→Hp
 t:TypeId
 p:Nat
 load : ∃ g, Meth Tryz.prog t "Load" g ∧ ∀ (s : S) (a : Int) (σ : Hp), O.free (abs s) → ACalls Tryz.prog g [.ptr p 0, .int .i64 a] (B s ++ σ) (fun r σ' => ∃ s', abs s' = (O.ld (abs s) a).2 ∧ r = .int .u64 (O.ld (abs s) a).1 ∧ σ' = B s' ++ σ)
 store : ∃ g, Meth Tryz.prog t "Store" g ∧ ∀ (s : S) (a x : Int) (σ : Hp), O.free (abs s) → ACalls Tryz.prog g [.ptr p 0, .int .i64 a, .int .u64 x] (B s ++ σ) (fun r σ' => ∃ s', abs s' = O.st (abs s) a x ∧ r = .tup [] ∧ σ' = B s' ++ σ)
 cas : ∃ g, Meth Tryz.prog t "CAS" g ∧ ∀ (s : S) (a x y : Int) (σ : Hp), O.free (abs s) → ACalls Tryz.prog g [.ptr p 0, .int .i64 a, .int .u64 x, .int .u64 y] (B s ++ σ) (fun r σ' => ∃ s', abs s' = (O.cs (abs s) a x y).2 ∧ r = .bool (O.cs (abs s) a x y).1 ∧ σ' = B s' ++ σ)
 add : ∃ g, Meth Tryz.prog t "Add" g ∧ ∀ (s : S) (a d : Int) (σ : Hp), O.free (abs s) → ACalls Tryz.prog g [.ptr p 0, .int .i64 a, .int .u64 d] (B s ++ σ) (fun r σ' => ∃ s', abs s' = (O.ad (abs s) a d).2 ∧ r = .int .u64 (O.ad (abs s) a d).1 ∧ σ' = B s' ++ σ)
 hL : AheadOk Tryz.prog t "Load"
 hS : AheadOk Tryz.prog t "Store"
 hC : AheadOk Tryz.prog t "CAS"
 hA : AheadOk Tryz.prog t "Add"
 len : ∃ g, Meth Tryz.prog t "Len" g ∧ ∀ (s : S) (σ : Hp), ACalls Tryz.prog g [.ptr p 0] (B s ++ σ) (fun r σ' => ∃ s', abs s' = abs s ∧ r = .int .i64 (O.ln (abs s)) ∧ σ' = B s' ++ σ)
abbrev AMem.v(M:AMem):AV:=.iface M.t (.ptr M.p 0)
theorem tY(fr b σ:Hp):(b++(fr++σ)).Perm (fr++(b++σ)):=by
 rw[← dW,← dW];exact List.Perm.append_right _ Qj
section
variable (M:AMem) (fr:Hp) {s:M.S} {σ:Hp} {K:AV→Hp→Prop}
theorem AMem.aLoad {a : Int} (hf : M.O.free (M.abs s)) (k : ∀ s', M.abs s' = (M.O.ld (M.abs s) a).2 → K (.int .u64 (M.O.ld (M.abs s) a).1) (fr ++ (M.B s' ++ σ))) : InvAt Tryz.prog M.t "Load" fun g => CallAt Tryz.prog g K [.ptr M.p 0, .int .i64 a] (fr ++ (M.B s ++ σ)) := by
 obtain⟨g,h1,h2⟩:=M.load;refine⟨g,h1,.perm _ (tY fr (M.B s) σ) (h2 s a (fr++σ) hf) ?_⟩;rintro r σ' ⟨s',h3,rfl,rfl⟩;exact⟨_,(tY fr (M.B s') σ).symm,k s' h3⟩
theorem AMem.aStore {a x : Int} (hf : M.O.free (M.abs s)) (k : ∀ s', M.abs s' = M.O.st (M.abs s) a x → K (.tup []) (fr ++ (M.B s' ++ σ))) : InvAt Tryz.prog M.t "Store" fun g => CallAt Tryz.prog g K [.ptr M.p 0, .int .i64 a, .int .u64 x] (fr ++ (M.B s ++ σ)) := by
 obtain⟨g,h1,h2⟩:=M.store;refine⟨g,h1,.perm _ (tY fr (M.B s) σ) (h2 s a x (fr++σ) hf) ?_⟩;rintro r σ' ⟨s',h3,rfl,rfl⟩;exact⟨_,(tY fr (M.B s') σ).symm,k s' h3⟩
theorem AMem.aCas {a x y : Int} (hf : M.O.free (M.abs s)) (k : ∀ s', M.abs s' = (M.O.cs (M.abs s) a x y).2 → K (.bool (M.O.cs (M.abs s) a x y).1) (fr ++ (M.B s' ++ σ))) : InvAt Tryz.prog M.t "CAS" fun g => CallAt Tryz.prog g K [.ptr M.p 0, .int .i64 a, .int .u64 x, .int .u64 y] (fr ++ (M.B s ++ σ)) := by
 obtain⟨g,h1,h2⟩:=M.cas;refine⟨g,h1,.perm _ (tY fr (M.B s) σ) (h2 s a x y (fr++σ) hf) ?_⟩;rintro r σ' ⟨s',h3,rfl,rfl⟩;exact⟨_,(tY fr (M.B s') σ).symm,k s' h3⟩
theorem AMem.aCasB {a x y : Int} (hf : M.O.free (M.abs s)) (k1 : ∀ s', M.abs s' = (M.O.cs (M.abs s) a x y).2 → (M.O.cs (M.abs s) a x y).1 = true → K (.bool true) (fr ++ (M.B s' ++ σ))) (k2 : ∀ s', M.abs s' = (M.O.cs (M.abs s) a x y).2 → (M.O.cs (M.abs s) a x y).1 = false → K (.bool false) (fr ++ (M.B s' ++ σ))) : InvAt Tryz.prog M.t "CAS" fun g => CallAt Tryz.prog g K [.ptr M.p 0, .int .i64 a, .int .u64 x, .int .u64 y] (fr ++ (M.B s ++ σ)) :=
 M.aCas fr hf fun s' h=>by
  cases hb:(M.O.cs (M.abs s) a x y).1 with
  |true=>exact k1 s' h hb
  |false=>exact k2 s' h hb
theorem AMem.aAdd {a d : Int} (hf : M.O.free (M.abs s)) (k : ∀ s', M.abs s' = (M.O.ad (M.abs s) a d).2 → K (.int .u64 (M.O.ad (M.abs s) a d).1) (fr ++ (M.B s' ++ σ))) : InvAt Tryz.prog M.t "Add" fun g => CallAt Tryz.prog g K [.ptr M.p 0, .int .i64 a, .int .u64 d] (fr ++ (M.B s ++ σ)) := by
 obtain⟨g,h1,h2⟩:=M.add;refine⟨g,h1,.perm _ (tY fr (M.B s) σ) (h2 s a d (fr++σ) hf) ?_⟩;rintro r σ' ⟨s',h3,rfl,rfl⟩;exact⟨_,(tY fr (M.B s') σ).symm,k s' h3⟩
end
def zJ(p q:Nat):AMem where
 O:=bJ
 S:=List Int
 abs ws:=ws
 B ws:=[(p,uY q ws.length),(q,aR ws)]
 t:=94
 p:=p
 load:=⟨_,mLoad_,fun ws a σ _=>(Go.Proofs.YtnikdflhefijbaaGreat.aLoad p q ws a σ).mono fun _ _ h=>⟨ws,rfl,h.1,h.2⟩⟩
 store:=⟨_,mStore_,fun ws a x σ _=>(Go.Proofs.YtnikdflhefijbaaGreat.aStore p q ws a x σ).mono fun _ _ h=>⟨_,rfl,h.1,h.2⟩⟩
 cas:=⟨_,mCAS_,fun ws a x y σ _=>(Go.Proofs.YtnikdflhefijbaaGreat.aCas p q ws a x y σ).mono fun _ _ h=>⟨_,rfl,h.1,h.2⟩⟩
 add:=⟨_,mAdd_,fun ws a d σ _=>(Go.Proofs.YtnikdflhefijbaaGreat.aAdd p q ws a d σ).mono fun _ _ h=>⟨_,rfl,h.1,h.2⟩⟩
 hL:=hLoad_
 hS:=hStore_
 hC:=hCAS_
 hA:=hAdd_
 len:=⟨_,mLen_,fun ws σ=>(Go.Proofs.YtnikdflhefijbaaGreat.Ye p q ws σ).mono fun _ _ h=>⟨ws,rfl,h.1,h.2⟩⟩
abbrev wr(n:Int):Int:=IntKind.i64.wrap n
structure Tk where
 f:Int
 c:Int
 v:Int
 new:Bool
 ended:Bool
 j7:Bool
def Am(t:Tk):List AV:=[.int .i64 t.f,.int .i64 t.c,.int .i64 t.v,.bool t.new,.bool t.ended,.bool t.j7]
def lD(O:kC)(t:Tk)(a:O.A):Tk×O.A×Bool:=
 if t.ended then (t,a,true)
 else if t.j7 then ({ t with ended:=true },(O.ad a t.c 1).2,true)
 else if 0≤t.v then
  (if (O.cs a (wr (t.f+t.v)) 0 1).1 then ({ t with j7:=true,new:=true },(O.cs a (wr (t.f+t.v)) 0 1).2,false) else ({ t with j7:=true,new:=false,ended:=true },(O.cs a (wr (t.f+t.v)) 0 1).2,true))
 else ({ t with j7:=true,new:=false,ended:=true },a,true)
def q9(M:AMem)(σ:Hp){X:Type}(B:X→List AV)(r:Nat)(res:X×M.O.A×Bool):AV→Hp→Prop:=
 fun x σ'=>∃m',M.abs m'=res.2.1∧x=.bool res.2.2∧σ'=(r,B res.1)::(M.B m'++σ)
theorem kv{M:AMem}{σ:Hp}{X:Type}{B:X→List AV}{r:Nat}{res:X×M.O.A×Bool}{x:X}{a:M.O.A}{b:Bool}{m':M.S}(h:res=(x,a,b))(hm:M.abs m'=a):q9 M σ B r res (.bool b) ((r,B x)::(M.B m'++σ)):=by
 subst h;exact⟨m',hm,rfl,rfl⟩
theorem Jl(M:AMem)(r:Nat)(t:Tk)(m:M.S)(d:Int)(σ:Hp)(hf:M.O.free (M.abs m)):ACalls Tryz.prog 408 [.ptr r 0,M.v,.int .i64 d] ((r,Am t)::(M.B m++σ)) (q9 M σ Am r (lD M.O t (M.abs m))):=by
 refine ay Tryz.func408 ?_;refine fg.kZ 0 _ _ rfl rfl (fun h0=>?_) (fun h0=>?_)
 ·exact .done (kv (x:=t) (by simp[lD,h0]) rfl)
 refine ax [] (ec _ _ _) ?_;refine fg.kZ 0 _ _ rfl rfl (fun h1=>?_) (fun h1=>?_)
 ·refine .each (by kernel_rfl) ?_;refine aa 0 ?_;refine fH.mk M.hA ?_;refine M.aAdd [_] hf fun m' hm=>?_;refine .fwd 1 ?_;refine aj 0 ?_;exact .done (kv (x:= { t with ended:=true }) (by simp[lD,h0,h1]) hm)
 refine aj 0 ?_;refine .each (by kernel_rfl) ?_
 by_cases h2:0≤t.v
 ·repeat' first
   |refine And.intro ?_ ?_
   |refine aa 0 ?_
   |refine ao (fun _=>?_) (fun h=>absurd h2 h)
   |refine fH.mk M.hC ?_
  all_goals
   refine M.aCasB [_] hf (fun m' hm hb=>?_) (fun m' hm hb=>?_)
   ·refine aj 0 ?_;refine aa 0 ?_;exact .done (kv (x:= { t with j7:=true,new:=true }) (by simp[lD,h0,h1,h2,hb]) hm)
   ·refine aj 0 ?_;refine aa 0 ?_;refine aj 0 ?_;exact .done (kv (x:= { t with j7:=true,new:=false,ended:=true }) (by simp[lD,h0,h1,h2,hb]) hm)
 ·repeat' first
   |refine And.intro ?_ ?_
   |refine aa 0 ?_
   |refine ao (fun h=>absurd h h2) (fun _=>?_)
   |refine aj 0 ?_
  all_goals
   exact .done (kv (x:= { t with j7:=true,new:=false,ended:=true }) (by simp[lD,h0,h1,h2]) rfl)
structure Ck where
 f:Int
 c:Int
 v:Int
 ended:Bool
def GU(t:Ck):List AV:=[.int .i64 t.f,.int .i64 t.c,.int .i64 t.v,.bool t.ended]
def sY(O:kC)(t:Ck)(a:O.A):Ck×O.A×Bool:=
 if t.ended then (t,a,true) else ({ t with ended:=true },if 0≤t.v then O.st a (wr (t.f+t.v)) 0 else a,true)
theorem W4(M:AMem)(r:Nat)(t:Ck)(m:M.S)(d:Int)(σ:Hp)(hf:M.O.free (M.abs m)):ACalls Tryz.prog 405 [.ptr r 0,M.v,.int .i64 d] ((r,GU t)::(M.B m++σ)) (q9 M σ GU r (sY M.O t (M.abs m))):=by
 refine ay Tryz.func405 ?_;refine fg.kZ 0 _ _ rfl rfl (fun h0=>?_) (fun h0=>?_)
 ·exact .done (kv (x:=t) (by simp[sY,h0]) rfl)
 refine aj 0 ?_;refine aa 0 ?_;refine ao (fun h2=>?_) (fun h2=>?_)
 ·have h2:0≤t.v:=h2;refine .each (by kernel_rfl) ?_
  repeat' first
   |refine And.intro ?_ ?_
   |refine aa 0 ?_
   |refine ax [] (ec _ _ _) ?_
   |refine fH.mk M.hS ?_
  all_goals
   refine M.aStore [_] hf fun m' hm=>?_;exact .done (kv (x:= { t with ended:=true }) (by simp[sY,h0,h2]) hm)
 ·have h2:¬0≤t.v:=h2;exact .done (kv (x:= { t with ended:=true }) (by simp[sY,h0,h2]) rfl)
structure Rk where
 f:Int
 c:Int
 left:Int
 ended:Bool
def FK(t:Rk):List AV:=[.int .i64 t.f,.int .i64 t.c,.int .i64 t.left,.bool t.ended]
def um(O:kC)(t:Rk)(a:O.A):Rk×O.A×Bool:=
 if t.ended then (t,a,true) else ({ t with ended:=true,left:=wr (O.ad a t.c 18446744073709551615).1 },(O.ad a t.c 18446744073709551615).2,true)
theorem VW(M:AMem)(r:Nat)(t:Rk)(m:M.S)(d:Int)(σ:Hp)(hf:M.O.free (M.abs m)):ACalls Tryz.prog 410 [.ptr r 0,M.v,.int .i64 d] ((r,FK t)::(M.B m++σ)) (q9 M σ FK r (um M.O t (M.abs m))):=by
 refine ay Tryz.func410 ?_;refine fg.kZ 0 _ _ rfl rfl (fun h0=>?_) (fun h0=>?_)
 ·exact .done (kv (x:=t) (by simp[um,h0]) rfl)
 refine aj 0 ?_;refine .each (by kernel_rfl) ?_
 repeat' first
  |refine And.intro ?_ ?_
  |refine aa 0 ?_
  |refine ax [] (ec _ _ _) ?_
  |refine fH.mk M.hA ?_
 all_goals
  refine M.aAdd [_] hf fun m' hm=>?_;refine aj 0 ?_;exact .done (kv (x:= { t with ended:=true,left:=wr (M.O.ad (M.abs m) t.c 18446744073709551615).1 }) (by simp[um,h0]) hm)
structure Qk where
 f:Int
 c:Int
 is:Bool
 ended:Bool
def FM(t:Qk):List AV:=[.int .i64 t.f,.int .i64 t.c,.bool t.is,.bool t.ended]
def sX(O:kC)(t:Qk)(a:O.A):Qk×O.A×Bool:=
 if t.ended then (t,a,true) else ({ t with ended:=true,is:=decide ((O.ld a t.c).1=0) },(O.ld a t.c).2,true)
theorem I3(M:AMem)(r:Nat)(t:Qk)(m:M.S)(d:Int)(σ:Hp)(hf:M.O.free (M.abs m)):ACalls Tryz.prog 404 [.ptr r 0,M.v,.int .i64 d] ((r,FM t)::(M.B m++σ)) (q9 M σ FM r (sX M.O t (M.abs m))):=by
 refine ay Tryz.func404 ?_;refine fg.kZ 0 _ _ rfl rfl (fun h0=>?_) (fun h0=>?_)
 ·exact .done (kv (x:=t) (by simp[sX,h0]) rfl)
 refine aj 0 ?_;refine .each (by kernel_rfl) ?_
 repeat' first
  |refine And.intro ?_ ?_
  |refine aa 0 ?_
  |refine ax [] (ec _ _ _) ?_
  |refine fH.mk M.hL ?_
 all_goals
  refine M.aLoad [_] hf fun m' hm=>?_;refine ao (fun h2=>?_) (fun h2=>?_)
  ·have h2:(M.O.ld (M.abs m) t.c).1=0:=h2;refine aj 0 ?_;exact .done (kv (x:= { t with ended:=true,is:=true }) (by simp[sX,h0,h2]) hm)
  ·have h2:¬(M.O.ld (M.abs m) t.c).1=0:=h2;refine aj 0 ?_;exact .done (kv (x:= { t with ended:=true,is:=false }) (by simp[sX,h0,h2]) hm)
end Go.Proofs.YtnikdflhefijbaaGreat
namespace Go.Proofs.YtnikdflhefijbaaGreat
set_option maxRecDepth 100000 in
theorem agJ(xs ys:List Int)(σ:Hp)(h1:xs.length≤1000000):ACalls Tryz.prog 63 [.ah (.int .u64) xs,.ah (.int .u64) ys] σ (fun r σ'=>r=.bool (decide (xs=ys))∧σ'=σ):=by
 refine ay Tryz.func63 ?_;refine dX (fun hl=>?_) (fun hl=>?_)
 ·have:xs≠ys:=by rintro rfl;simp at hl
  exact .done ⟨by simp[this];rfl,rfl⟩
 ·have hl:(!decide ((xs.length:Int)=(ys.length:Int)))=false:=hl;have hlen:xs.length=ys.length:=by simp at hl;omega
  refine ca (S:=Nat) (fun k=>[(0,.ah (.int .u64) xs),(1,.ah (.int .u64) ys),(12,.int .i64 xs.length),(13,.int .i64 k)]) (fun _=>σ) (fun k=>k≤xs.length∧xs.take k=ys.take k) (fun k=>xs.length-k) 0 ⟨⟨bC _,rfl⟩,⟨rfl,rfl,rfl,rfl,trivial⟩,rfl⟩ ?_;rintro k g ⟨hk,fZ⟩;refine ao (fun ab=>?_) (fun au=>?_)
  ·have dR:k<xs.length:=by omega
   have Fp:k<ys.length:=by omega
   refine gZ.quiet (by kernel_rfl) ?_;refine aJ.mk rfl (bO.mk xs[k] (by omega) (get_some dR) ?_);refine aJ.mk rfl (bO.mk ys[k] (by omega) (get_some Fp) ?_);refine dX (fun hx=>?_) (fun hx=>?_)
   ·have:xs≠ys:=by rintro rfl;simp at hx
    exact .done ⟨by simp[this];rfl,rfl⟩
   ·have ki:xs[k]=ys[k]:=by simpa using hx
    refine next (k+1) (Nat.sub_lt_sub_left dR (Nat.lt_succ_self k)) ⟨dR,?_⟩ ⟨rfl,rfl,rfl,aX (by omega),trivial⟩ rfl;rw[ft dR,ft Fp,fZ,ki]
  ·obtain rfl:k=xs.length:=by omega
   have:xs=ys:=by
    rw[ga]at fZ;rw[fZ,hlen,ga]
   exact .done ⟨by simp[this];rfl,rfl⟩
set_option maxRecDepth 100000
theorem R2{α:Type}{f:α→Hp}{l:List α}{j:Nat}(h:j<l.length):(l.flatMap f).Perm (f l[j]++(l.eraseIdx j).flatMap f):=by
 induction l generalizing j with
 |nil=>simp at h
 |cons x l ih=>
  cases j with
  |zero=>exact List.Perm.refl _
  |succ j=>
   rw[y6];have:=ih (j:=j) (by simpa using h);refine (List.Perm.append_left _ this).trans ?_;simp only[List.getElem_cons_succ,List.eraseIdx_cons_succ,y6,← dW];exact List.Perm.append_right _ Qj
theorem abw{α:Type}{f:α→Hp}{l:List α}{j:Nat}(h:j<l.length)(y:α):((l.set j y).flatMap f).Perm (f y++(l.eraseIdx j).flatMap f):=by
 have:=R2 (f:=f) (l:=l.set j y) (j:=j) (by simpa using h);rw[List.getElem_set_self,Qg]at this;exact this
set_option maxHeartbeats 4000000
def bg(p:Int)(n:Nat):Nat:=if n<1 then 0 else (p % (n:Int)).toNat
theorem pT{p:Int}{n:Nat}(h:0<n):bg p n<n:=by
 unfold bg;rw[ag (by omega)];have h1:=KK p (show (n:Int)≠0 by omega);have h2:=KU p (show (0:Int)<n by omega);omega
theorem aeE{p:Int}{n:Nat}(h0:0<n)(hn:n≤1000000)(h:p.tmod n<0):IntKind.i64.wrap (p.tmod n+n)=((bg p n:Nat):Int):=by
 have h1:=KK p (show (n:Int)≠0 by omega);have h2:=KU p (show (0:Int)<n by omega);have e:= @Int.tmod_eq_emod p n;unfold bg;rw[ag (by omega),IntKind.wrap_i64];split at e <;> omega
theorem aeD{p:Int}{n:Nat}(h0:0<n)(h:¬p.tmod n<0):p.tmod n=((bg p n:Nat):Int):=by
 have h1:=KK p (show (n:Int)≠0 by omega);have h2:=KU p (show (0:Int)<n by omega);have e:= @Int.tmod_eq_emod p n;unfold bg;rw[ag (by omega)];split at e <;> omega
theorem ack{p:Int}{n:Nat}(h:(n:Int)<1):(0:Int)=((bg p n:Nat):Int):=by
 unfold bg;rw[af (by omega)];rfl
theorem s9(p d:Int)(n:Nat)(σ:Hp)(hn:n≤1000000):ACalls Tryz.prog 70 [.agg [.int .i64 p,.int .i64 d],.int .i64 n] σ (aC (.int .i64 (bg p n)) σ):=by
 refine ay Tryz.func70 ?_;intro aF;refine ao (fun c2=>?_) (fun c2=>?_)
 ·have c2:(↑n:Int)<1:=c2;exact .drop 0 1 (.done ⟨aT (ack (by assumption)),rfl⟩)
 ·have c2:¬((↑n:Int)<1):=c2;refine aa 0 ?_;refine dZ ?_;refine ao (fun c3=>?_) (fun c3=>?_)
  ·have c3:p.tmod (↑n:Int)<0:=c3;exact .drop 0 1 (.done ⟨aT (aeE (by omega) hn (by assumption)),rfl⟩)
  ·have c3:¬(p.tmod (↑n:Int)<0):=c3;exact .drop 0 1 (.done ⟨aT (aeD (by omega) (by assumption)),rfl⟩)
def j8(l:List Bool):List AV:=l.map AV.bool
theorem uf{dn:List Bool}{k:Nat}(h:k<dn.length){b:Bool}(hb:dn[k]=b):(j8 dn)[0+((k:Int)).toNat*1]?=some (.bool b):=by
 simp[j8,h,hb]
theorem WK{dn:List Bool}{k:Nat}(h:k<dn.length)(hd:dn[k]=false):dn.all id=false:=by
 cases ha:dn.all id with
 |false=>rfl
 |true=>
  have:=fG.1 ha _ (cq h);rw[hd]at this;cases this
theorem Jq(sv:AV)(u:Int)(b:Nat)(dn:List Bool)(σ:Hp)(hn:dn.length≤1000000):ACalls Tryz.prog 42 [.agg [sv,.ae b 0 dn.length 1,.int .i64 u]] ((b,j8 dn)::σ) (aC (.bool (dn.all id)) ((b,j8 dn)::σ)):=by
 refine ay Tryz.func42 ?_;intro aF;refine aa 0 ?_;refine ca (S:=Nat) (fun s=>[(6,.ae b 0 dn.length 1),(7,.int .i64 dn.length),(8,.int .i64 s)]) (fun _=>(aF,[sv,.ae b 0 dn.length 1,.int .i64 u])::(b,j8 dn)::σ) (fun s=>s≤dn.length∧(dn.take s).all id=true) (fun s=>dn.length-s) 0 ⟨⟨bC _,rfl⟩,⟨rfl,rfl,rfl,trivial⟩,rfl⟩ ?_;rintro k g ⟨hk,cx⟩;refine ao (fun h=>?_) (fun h=>?_)
 ·have h:(k:Int)<dn.length:=h;have nE:k<dn.length:=by omega
  refine aO ?_;cases hd:dn[k] with
  |true=>
   refine aW 1 rfl (uf nE hd) ?_;refine a8 (k+1) ?_ ⟨nE,?_⟩ ⟨rfl,rfl,aX (by omega),trivial⟩ (aL rfl)
   ·show dn.length-(k+1)<dn.length-k;omega
   ·rw[ft nE,CU,cx,hd];rfl
  |false=>
   refine aW 1 rfl (uf nE hd) ?_;exact .drop 0 1 (.done ⟨congrArg AV.bool (WK nE hd).symm,rfl⟩)
 ·have h:¬(k:Int)<dn.length:=h;exact .drop 0 1 (.done ⟨congrArg AV.bool (by rw[← eR (show dn.length≤k by omega)];exact cx.symm),rfl⟩)
def kY(l:List Int):List AV:=l.map (AV.int .i64)
def isNil:AV→Bool
 |.nilif=>true
 |_=>false
theorem af1(n:Nat):cI [.bool false] n=j8 (List.replicate n false):=by
 unfold j8
 induction n with
 |zero=>rfl
 |succ n ih=>simp[cI,ih,List.replicate_succ]
theorem af0(n:Nat):cI [.int .i64 0] n=kY (List.replicate n 0):=by
 unfold kY
 induction n with
 |zero=>rfl
 |succ n ih=>simp[cI,ih,List.replicate_succ]
def tS(L:List AV)(k:Nat):List Bool:=(L.take k).map isNil++List.replicate (L.length-k) false
theorem adS(L:List AV):tS L 0=List.replicate L.length false:=by simp[tS]
theorem LK(L:List AV)(k:Nat)(h:k≤L.length):(tS L k).length=L.length:=by simp[tS];omega
theorem VQ(L:List AV):tS L L.length=L.map isNil:=by simp[tS]
theorem VP(L:List AV)(k:Nat)(h:k<L.length):(tS L k).set k (isNil L[k])=tS L (k+1):=by
 unfold tS;rw[show L.length-k=(L.length-(k+1))+1 by omega,Qt,ft h,cF];have hl:((L.take k).map isNil).length=k:=by simp;omega
 rw[Le _ _ (by omega),hl,qB];simp
theorem BR{L:List AV}{k:Nat}(h:k<L.length){x:AV}(hx:L[k]=x):L[0+((k:Int)).toNat*1]?=some x:=by
 rw[show 0+((k:Int)).toNat*1=k by omega,bB h,hx]
theorem ue{dn:List Bool}{k:Nat}(b:Bool)(h:k<dn.length):kO ⟨.bool,1,1,[.bool false]⟩ (j8 dn) (0+((k:Int)).toNat*1) (.bool b)=some (j8 (dn.set k b)):=by
 have e:0+((k:Int)).toNat*1=k:=by omega
 have h2:Nat.ble (k+1) (j8 dn).length=true:=Nat.ble_eq_true_of_le (by simp[j8];omega);rw[e];show (match Nat.beq 1 1,Nat.ble (k+1) (j8 dn).length with | true,true=>some (fx (j8 dn) k [.bool b]) | _,_=>none)=_;rw[h2];show some ((j8 dn).set k (.bool b))=_;rw[show (j8 dn).set k (.bool b)=j8 (dn.set k b) by simp[j8,List.map_set]]
theorem x5{l:List Int}{k:Nat}(h:k<l.length):(kY l)[0+((k:Int)).toNat*1]?=some (.int .i64 (l.getD k 0)):=by
 simp[kY,h,List.getD]
theorem xZ{l:List Int}{k:Nat}(x:Int)(h:k<l.length):kO ⟨.int .i64,1,8,[.int .i64 0]⟩ (kY l) (0+((k:Int)).toNat*1) (.int .i64 x)=some (kY (l.set k x)):=by
 have e:0+((k:Int)).toNat*1=k:=by omega
 have h2:Nat.ble (k+1) (kY l).length=true:=Nat.ble_eq_true_of_le (by simp[kY];omega);rw[e];show (match Nat.beq 1 1,Nat.ble (k+1) (kY l).length with | true,true=>some (fx (kY l) k [.int .i64 x]) | _,_=>none)=_;rw[h2];show some ((kY l).set k (.int .i64 x))=_;rw[show (kY l).set k (.int .i64 x)=kY (l.set k x) by simp[kY,List.map_set]]
structure jQ(A:Type) where
 a:A
 st:List Int
 dn:List Bool
 us:Nat
def jc{A:Type}(step:A→Nat→Int→A×Bool)(tell:A→Nat→A)(n:Nat)(x:jQ A)(p:Int×Int×Unit):jQ A:=
 if x.dn.getD (bg p.1 n) true then ⟨tell x.a (x.us+1),x.st,x.dn,x.us+1⟩
 else ⟨tell (step x.a (bg p.1 n) p.2.1).1 (x.us+1),x.st.set (bg p.1 n) (wr (x.st.getD (bg p.1 n) 0+1)),x.dn.set (bg p.1 n) (step x.a (bg p.1 n) p.2.1).2,x.us+1⟩
def j4{A:Type}(step:A→Nat→Int→A×Bool)(tell:A→Nat→A)(n:Nat):List (Int×Int×Unit)→jQ A→jQ A
 | [],x=>x
 |p::ps,x=>if x.dn.all id then x else j4 step tell n ps (jc step tell n x p)
structure AWorld where
 A:Type
 S:Type
 abs:S→A
 B:S→Hp
 L:List AV
 mt:TypeId
 mp:Nat
 step:A→Nat→Int→A×Bool
 tell:A→Nat→A
 free:A→Prop
 keeps:∀a i d,free a→i<L.length→free (step a i d).1
 told:∀a k,free a→free (tell a k)
 mach : ∀ i (h : i < L.length), L[i] = .nilif ∨ ∃ t r, L[i] = .iface t (.ptr r 0) ∧ ∃ g, Meth Tryz.prog t "Step" g ∧
  ∀(s:S) (d:Int) (σ:Hp),free (abs s)→ACalls Tryz.prog g [.ptr r 0,.iface mt (.ptr mp 0),.int .i64 d] (B s++σ) (fun x σ'=>∃s',abs s'=(step (abs s) i d).1∧x=.bool (step (abs s) i d).2∧σ'=B s'++σ)
abbrev AWorld.mv(W:AWorld):AV:=.iface W.mt (.ptr W.mp 0)
def AWorld.init(W:AWorld)(a:W.A):jQ W.A:=⟨a,List.replicate W.L.length 0,W.L.map isNil,0⟩
theorem AWorld.aStep (W : AWorld) (fr : Hp) {s : W.S} {σ : Hp} {K : AV → Hp → Prop} {i r : Nat} {t : TypeId} {g : FuncId} {d : Int} (hMe : Meth Tryz.prog t "Step" g)
  (ie:∀(s:W.S) (d:Int) (σ:Hp),W.free (W.abs s)→ACalls Tryz.prog g [.ptr r 0,.iface W.mt (.ptr W.mp 0),.int .i64 d] (W.B s++σ) (fun x σ'=>∃s',W.abs s'=(W.step (W.abs s) i d).1∧x=.bool (W.step (W.abs s) i d).2∧σ'=W.B s'++σ))
  (hf : W.free (W.abs s)) (k : ∀ s', W.abs s' = (W.step (W.abs s) i d).1 → K (.bool (W.step (W.abs s) i d).2) (fr ++ (W.B s' ++ σ))) : InvAt Tryz.prog t "Step" fun g => CallAt Tryz.prog g K [.ptr r 0, W.mv, .int .i64 d] (fr ++ (W.B s ++ σ)) := by
 refine⟨g,hMe,.perm _ (tY fr (W.B s) σ) (ie s d (fr++σ) hf) ?_⟩;rintro r σ' ⟨s',h3,rfl,rfl⟩;exact⟨_,(tY fr (W.B s') σ).symm,k s' h3⟩
def AWorld.run(W:AWorld)(ar:List (Int×Int×Unit))(a:W.A):jQ W.A:=j4 W.step W.tell W.L.length ar (W.init a)
def MJ(W:AWorld)(ar:List (Int×Int×Unit))(a:W.A)(fr σ:Hp):AV→Hp→Prop:=fun x σ'=>∃s',W.abs s'=(W.run ar a).a∧x=.agg [.ah (.int .i64) (W.run ar a).st,.ah .bool (W.run ar a).dn,.int .i64 (W.run ar a).us]∧σ'=fr++(W.B s'++σ)
theorem nX{b off len es:Nat}{e:Sh}{l:List e.T}{x1 x2 x3 y1 y2 y3:AV}(h1:fm b off len es e l x1 y1)(h2:fm b off len es e l x2 y2)(h3:fm b off len es e l x3 y3)(l1:y1.leaf=true)(l2:y2.leaf=true)(l3:y3.leaf=true):fm b off len es e l (.agg [x1,x2,x3]) (.agg [y1,y2,y3]):=by
 refine .agg _ _ rfl (fun i y hy=>?_) (fun i x y hx hy=>?_)
 ·match i,hy with
  | 0,hy=>cases hy;exact l1
  | 1,hy=>cases hy;exact l2
  | 2,hy=>cases hy;exact l3
  |i+3,hy=>cases hy
 ·match i,hx,hy with
  | 0,hx,hy=>cases hx;cases hy;exact h1
  | 1,hx,hy=>cases hx;cases hy;exact h2
  | 2,hx,hy=>cases hx;cases hy;exact h3
  |i+3,hx,hy=>cases hx
theorem TQ:∀(ws:List Int),kY ws=ws.flatMap (Sh.cells (.int .i64))
 | []=>rfl
 |z::ws=>congrArg (AV.int .i64 z :: ·) (TQ ws)
theorem UR:∀(ws:List Bool),j8 ws=ws.flatMap (Sh.cells .bool)
 | []=>rfl
 |z::ws=>congrArg (AV.bool z :: ·) (UR ws)
theorem x6{l:List Int}{n:Nat}(h:l.length=n):((kY l).drop 0).take (n*1)=l.flatMap (Sh.cells (.int .i64)):=by
 rw[gR,← TQ];exact List.take_of_length_le (by simp[kY,h])
theorem yc{l:List Bool}{n:Nat}(h:l.length=n):((j8 l).drop 0).take (n*1)=l.flatMap (Sh.cells .bool):=by
 rw[gR,← UR];exact List.take_of_length_le (by simp[j8,h])
def wW(W:AWorld)(ar:List (Int×Int×Unit))(a0:W.A)(x:W.S×List Int×List Bool×Nat):Prop:=
 x.2.2.2≤ar.length∧x.2.1.length=W.L.length∧x.2.2.1.length=W.L.length∧(∀i (h:i<W.L.length),W.L[i]=.nilif→x.2.2.1[i]?=some true)∧W.free (W.abs x.1)∧j4 W.step W.tell W.L.length (ar.drop x.2.2.2) ⟨W.abs x.1,x.2.1,x.2.2.1,x.2.2.2⟩=W.run ar a0
theorem afE{A:Type}{step:A→Nat→Int→A×Bool}{tell:A→Nat→A}{n:Nat}(l:List (Int×Int×Unit)){x:jQ A}(h:x.dn.all id=true):j4 step tell n l x=x:=by
 cases l with
 |nil=>rfl
 |cons p ps=>rw[j4,af h]
theorem UG{A:Type}{step:A→Nat→Int→A×Bool}{tell:A→Nat→A}{n:Nat}(p:Int×Int×Unit)(ps:List (Int×Int×Unit)){x:jQ A}(h:x.dn.all id=false):j4 step tell n (p::ps) x=j4 step tell n ps (jc step tell n x p):=by
 rw[j4,ag (by rw[h];decide)]
theorem yb{W:AWorld}{ar:List (Int×Int×Unit)}{a0:W.A}{s:W.S}{st:List Int}{dn:List Bool}{us:Nat}(h:wW W ar a0 (s,st,dn,us))(he:us=ar.length∨dn.all id=true):W.run ar a0=⟨W.abs s,st,dn,us⟩:=by
 obtain⟨_,_,_,_,_,hg⟩:=h;rw[← hg]
 rcases he with he | he
 ·show j4 _ _ _ (ar.drop us) _=_;rw[he,List.drop_length];rfl
 ·exact afE _ he
theorem VG{dn:List Bool}{i:Nat}{b d:Bool}(h:i<dn.length)(hd:dn[i]=b):dn.getD i d=b:=by
 rw[aZ,bB h,hd];rfl
theorem HX{W:AWorld}{ar:List (Int×Int×Unit)}{a0:W.A}{s:W.S}{st:List Int}{dn:List Bool}{us i:Nat}{pw pd:Int}{pu:Unit}(h:wW W ar a0 (s,st,dn,us))(mG:∀a k,W.tell a k=a)(cx:dn.all id=false)(gi:us<ar.length)(fp:(pw,pd,pu)=ar[us])(hi:i=bg pw W.L.length)(eE:i<dn.length)(hd:dn[i]=true):wW W ar a0 (s,st,dn,us+1):=by
 obtain⟨h1,h2,h3,h4,h5,hg⟩:=h;refine⟨gi,h2,h3,h4,h5,?_⟩;rw[← hg];show j4 _ _ _ (ar.drop (us+1)) _=j4 _ _ _ (ar.drop us) _;rw[K7 gi,← fp,UG _ _ cx];unfold jc;dsimp only;rw[← hi,af (VG eE hd),mG]
theorem xW{W:AWorld}{ar:List (Int×Int×Unit)}{a0:W.A}{s s':W.S}{st:List Int}{dn:List Bool}{us i:Nat}{pw pd:Int}{pu:Unit}(h:wW W ar a0 (s,st,dn,us))(mG:∀a k,W.tell a k=a)(cx:dn.all id=false)(gi:us<ar.length)(fp:(pw,pd,pu)=ar[us])(hi:i=bg pw W.L.length)(eE:i<W.L.length){X5:i<dn.length}(hd:dn[i]=false)(eg:W.abs s'=(W.step (W.abs s) i pd).1):
  wW W ar a0 (s',st.set i (wr (st.getD i 0+1)),dn.set i (W.step (W.abs s) i pd).2,us+1):=by
 obtain⟨h1,h2,h3,h4,h5,hg⟩:=h;refine⟨gi,(cz ..).trans h2,(cz ..).trans h3,?_,?_,?_⟩
 ·intro k hk hm;have:=h4 k hk hm;show (dn.set i _)[k]?=some true;rw[eA];split
  ·rename_i he
   subst he;rw[bB X5,hd]at this;cases this
  ·exact this
 ·show W.free (W.abs s');rw[eg];exact W.keeps _ _ _ h5 eE
 ·rw[← hg];show j4 _ _ _ (ar.drop (us+1)) _=j4 _ _ _ (ar.drop us) _;rw[K7 gi,← fp,UG _ _ cx];unfold jc;dsimp only;rw[← hi,ag (by rw[VG X5 hd];decide),mG,← eg]
theorem aiP(W:AWorld)(lb:Nat)(ar:List (Int×Int×Unit))(s0:W.S)(σ:Hp)(hn:W.L.length≤100000)(hs:ar.length≤100000)(hf:W.free (W.abs s0))(mG:∀a k,W.tell a k=a):
  ACalls Tryz.prog 140 [W.mv,.ae lb 0 W.L.length 1,.ah (.field (.int .i64) (.field (.int .i64) .nil)) ar,.jd] ((lb,W.L)::(W.B s0++σ)) (MJ W ar (W.abs s0) [(lb,W.L)] σ):=by
 obtain⟨a0,nI⟩:∃a0,a0=W.abs s0:=⟨_,rfl⟩
 rw[← nI];obtain⟨z,ox⟩:∃z,z=s0:=⟨_,rfl⟩
 subst ox;refine ay Tryz.func140 ?_;intro aF
 refine .meet (S:=Nat×Nat×Nat) (fun s=>[(0,W.mv),(1,.ae lb 0 W.L.length 1),(2,.ah (.field (.int .i64) (.field (.int .i64) .nil)) ar),(3,.jd),(8,.ptr aF 0),(9,.ptr s.1 0)])
  (fun s=>(s.1,[.ae s.2.1 0 W.L.length 1,.ae s.2.2 0 W.L.length 1,.int .i64 0])::(s.2.1,cI [.int .i64 0] W.L.length)::(s.2.2,cI [.bool false] W.L.length)::(aF,[.an,.an,.int .i64 0])::(lb,W.L)::(W.B z++σ)) (by kernel_rfl) ?_ ?_
 ·repeat' first
   |exact dh.mk (_,_,_) ⟨rfl,rfl,rfl,rfl,rfl,rfl,trivial⟩ (aL rfl)
   |exact dh.mk (_,_,_) ⟨rfl,rfl,rfl,rfl,rfl,rfl,trivial⟩ (.pull [2,2,1] (aL rfl))
   |exact dh.mk (_,_,_) ⟨rfl,rfl,rfl,rfl,rfl,rfl,trivial⟩ (.pull [2,1,2] (aL rfl))
   |exact dh.mk (_,_,_) ⟨rfl,rfl,rfl,rfl,rfl,rfl,trivial⟩ (.pull [2,2,0] (aL rfl))
   |exact dh.mk (_,_,_) ⟨rfl,rfl,rfl,rfl,rfl,rfl,trivial⟩ (.pull [2,1,1] (aL rfl))
   |exact dh.mk (_,_,_) ⟨rfl,rfl,rfl,rfl,rfl,rfl,trivial⟩ (.pull [2,1,0] (aL rfl))
   |refine And.intro ?_ ?_
   |refine bf ?_
   |refine aj 0 ?_
   |refine aj 1 ?_
   |refine aj 2 ?_
   |intro b
 rintro⟨br,ba,bd⟩ g;refine ax [] (ec _ _ _) ?_;obtain⟨us,gv⟩:∃us:Nat,us=0:=⟨_,rfl⟩
 obtain⟨st,aq⟩:∃st,st=(List.replicate W.L.length 0:List Int):=⟨_,rfl⟩
 refine ca (S:=Nat) (fun s=>[(0,W.mv),(1,.ae lb 0 W.L.length 1),(2,.ah (.field (.int .i64) (.field (.int .i64) .nil)) ar),(3,.jd),(8,.ptr aF 0),(9,.ptr br 0),(23,.ae lb 0 W.L.length 1),(24,.int .i64 W.L.length),(25,.int .i64 s)])
  (fun s=>(br,[.ae ba 0 W.L.length 1,.ae bd 0 W.L.length 1,.int .i64 us])::(ba,kY st)::(bd,j8 (tS W.L s))::(aF,[.an,.an,.int .i64 0])::(lb,W.L)::(W.B z++σ)) (fun s=>s≤W.L.length) (fun s=>W.L.length-s) 0 ⟨bC _,⟨rfl,rfl,rfl,rfl,rfl,rfl,rfl,rfl,rfl,trivial⟩,by rw[adS,← af1,aq,← af0,gv];rfl⟩ ?_
 intro k g hk;have hk:k≤W.L.length:=hk;refine ao (fun ab=>?_) (fun au=>?_)
 ·have ab:(k:Int)<W.L.length:=ab;have ab:k<W.L.length:=by omega
  refine aO ?_
  rcases W.mach k ab with hm | ⟨t,r,hm,_⟩
  ·refine fg.mk 4 _ (AV.nilif) rfl (BR ab hm) ?_;refine .sched [] (upto [] 7 0) (by kernel_rfl) ?_;refine aa 0 ?_;refine aO ?_;refine cU 2 rfl (ue _ (by rw[LK _ _ hk];omega)) ?_;refine a8 (k+1) ?_ ab ⟨rfl,rfl,rfl,rfl,rfl,rfl,rfl,rfl,aX (by omega),trivial⟩ (aL ?_)
   ·show W.L.length-(k+1)<W.L.length-k;omega
   ·rw[← VP _ _ ab,hm];rfl
  ·refine fg.mk 4 _ (AV.iface t (.ptr r 0)) rfl (BR ab hm) ?_;refine .sched [] (upto [] 7 0) (by kernel_rfl) ?_;refine aa 0 ?_;refine aO ?_;refine cU 2 rfl (ue _ (by rw[LK _ _ hk];omega)) ?_;refine a8 (k+1) ?_ ab ⟨rfl,rfl,rfl,rfl,rfl,rfl,rfl,rfl,aX (by omega),trivial⟩ (aL ?_)
   ·show W.L.length-(k+1)<W.L.length-k;omega
   ·rw[← VP _ _ ab,hm];rfl
 ·have au:¬(k:Int)<W.L.length:=au;obtain rfl:k=W.L.length:=by omega
  obtain⟨dn,mS⟩:∃dn,dn=tS W.L W.L.length:=⟨_,rfl⟩
  rw[← mS];have eK:dn.length=W.L.length:=by rw[mS];exact LK _ _ (aQ _)
  have cT:st.length=W.L.length:=by rw[aq,fQ]
  have sk:∀i (h:i<W.L.length),W.L[i]=.nilif→dn[i]?=some true:=by
   intro i h hm;rw[mS,VQ,fk,bB h,hm];rfl
  obtain⟨s,eO⟩:∃s,s=z:=⟨_,rfl⟩
  subst eO
  have hI:wW W ar a0 (s,st,dn,us):=by
   exact⟨by show us≤_;omega,cT,eK,sk,hf,by rw[gv,mS,VQ,aq,nI];rfl⟩
  have ⟨gv,cT,eK,sk,hf,Gg⟩:=hI;have gv:us≤ar.length:=gv;have cT:st.length=W.L.length:=cT;have eK:dn.length=W.L.length:=eK;have hF:=fun σ=>Jq (.ae ba 0 W.L.length 1) us bd dn σ (by omega);rw[eK]at hF;refine aa 0 ?_;refine ao (fun c1=>?_) (fun c1=>?_)
  ·have c1:(↑us:Int)=(↑ar.length:Int):=c1;have hE:=yb hI (.inl (by show us=_;omega));refine aa 0 ?_;refine aj 3 ?_;refine aa 3 ?_;refine .cN 1 ba 0 W.L.length 1 _ (.int .i64) st rfl (x6 cT) ⟨cT,rfl,by decide⟩ (nX .here (.refl _) (.refl _) rfl rfl rfl) ?_;refine .cN 1 bd 0 W.L.length 1 _ .bool dn rfl (yc eK) ⟨eK,rfl,by decide⟩ (nX (.refl _) .here (.refl _) rfl rfl rfl) ?_;exact .drop 0 2 (.done ⟨s,by rw[hE],by rw[hE],rfl⟩)
  ·have c1:¬((↑us:Int)=(↑ar.length:Int)):=c1;refine aa 0 ?_;refine ax [2] (hF _) ?_;cases cx:dn.all id with
   |true=>
    have hE:=yb hI (.inr cx);refine aa 1 ?_;refine aj 3 ?_;refine aa 3 ?_;refine .cN 2 ba 0 W.L.length 1 _ (.int .i64) st rfl (x6 cT) ⟨cT,rfl,by decide⟩ (nX .here (.refl _) (.refl _) rfl rfl rfl) ?_;refine .cN 0 bd 0 W.L.length 1 _ .bool dn rfl (yc eK) ⟨eK,rfl,by decide⟩ (nX (.refl _) .here (.refl _) rfl rfl rfl) ?_;exact .drop 0 2 (.done ⟨s,by rw[hE],by rw[hE],rfl⟩)
   |false=>
    refine aa 1 ?_;refine aJ.mk rfl ?_;have gi:us<ar.length:=by omega
    have mM:AV.int .i64 (IntKind.i64.wrap ((us:Int)+1))=AV.int .i64 ((us+1:Nat):Int):=aX (by omega);obtain⟨pk,fp⟩:∃pk,pk=ar[us]:=⟨_,rfl⟩
    obtain⟨pw,pd,pu⟩:=pk
    have gw:0<W.L.length:=by
     rcases vG W.L.length with h0 | h0
     ·rw[iz.1 (eK.trans h0)]at cx;cases cx
     ·exact h0
    refine bO.mk (pw,pd,pu) (by omega) ((get_some gi).trans (congrArg some fp.symm)) ?_;obtain⟨i,hi⟩:∃i,i=bg pw W.L.length:=⟨_,rfl⟩
    have eE:i<W.L.length:=by rw[hi];exact pT gw
    have te:=fun σ=>s9 pw pd W.L.length σ (by omega);rw[← hi]at te;intro bp;refine aj 0 ?_;refine aa 0 ?_;refine ax [] (te _) ?_;refine aa 2 ?_;refine aO ?_;cases hd:dn[i] with
    |true=>
     refine aW 1 rfl (uf (by omega) hd) ?_;refine aa 2 ?_;refine aj 2 ?_;refine .loop (S:=W.S×List Int×List Bool×Nat) (fun _=>0) (fun _=>[(0,W.mv),(1,.ae lb 0 W.L.length 1),(2,.ah (.field (.int .i64) (.field (.int .i64) .nil)) ar),(3,.jd),(8,.ptr aF 0),(9,.ptr br 0)]) (fun x=>(br,[.ae ba 0 W.L.length 1,.ae bd 0 W.L.length 1,.int .i64 x.2.2.2])::(ba,kY x.2.1)::(bd,j8 x.2.2.1)::(aF,[.an,.an,.int .i64 0])::(lb,W.L)::(W.B x.1++σ)) (wW W ar a0) (fun x=>ar.length-x.2.2.2) (s,st,dn,us+1) ⟨rfl,(HX hI mG cx gi fp hi (by omega) hd),⟨rfl,rfl,rfl,rfl,rfl,rfl,trivial⟩,.drop 0 1 (.pull [2,2,0] (aL ?_))⟩ ?_
     ·show _=(br,[AV.ae ba 0 W.L.length 1,AV.ae bd 0 W.L.length 1,AV.int .i64 ((us+1:Nat):Int)])::_;rw[← mM];rfl
     rintro⟨s,st,dn,us⟩ g hI;have ⟨gv,cT,eK,sk,hf,Gg⟩:=hI;have gv:us≤ar.length:=gv;have cT:st.length=W.L.length:=cT;have eK:dn.length=W.L.length:=eK;have hF:=fun σ=>Jq (.ae ba 0 W.L.length 1) us bd dn σ (by omega);rw[eK]at hF;refine aa 0 ?_;refine ao (fun c1=>?_) (fun c1=>?_)
     ·have c1:(↑us:Int)=(↑ar.length:Int):=c1;have hE:=yb hI (.inl (by show us=_;omega));refine aa 0 ?_;refine aj 3 ?_;refine aa 3 ?_;refine .cN 1 ba 0 W.L.length 1 _ (.int .i64) st rfl (x6 cT) ⟨cT,rfl,by decide⟩ (nX .here (.refl _) (.refl _) rfl rfl rfl) ?_;refine .cN 1 bd 0 W.L.length 1 _ .bool dn rfl (yc eK) ⟨eK,rfl,by decide⟩ (nX (.refl _) .here (.refl _) rfl rfl rfl) ?_;exact .drop 0 2 (.done ⟨s,by rw[hE],by rw[hE],rfl⟩)
     ·have c1:¬((↑us:Int)=(↑ar.length:Int)):=c1;refine aa 0 ?_;refine ax [2] (hF _) ?_;cases cx:dn.all id with
      |true=>
       have hE:=yb hI (.inr cx);refine aa 1 ?_;refine aj 3 ?_;refine aa 3 ?_;refine .cN 2 ba 0 W.L.length 1 _ (.int .i64) st rfl (x6 cT) ⟨cT,rfl,by decide⟩ (nX .here (.refl _) (.refl _) rfl rfl rfl) ?_;refine .cN 0 bd 0 W.L.length 1 _ .bool dn rfl (yc eK) ⟨eK,rfl,by decide⟩ (nX (.refl _) .here (.refl _) rfl rfl rfl) ?_;exact .drop 0 2 (.done ⟨s,by rw[hE],by rw[hE],rfl⟩)
      |false=>
       refine aa 1 ?_;refine aJ.mk rfl ?_;have gi:us<ar.length:=by omega
       have mM:AV.int .i64 (IntKind.i64.wrap ((us:Int)+1))=AV.int .i64 ((us+1:Nat):Int):=aX (by omega);obtain⟨pk,fp⟩:∃pk,pk=ar[us]:=⟨_,rfl⟩
       obtain⟨pw,pd,pu⟩:=pk
       have gw:0<W.L.length:=by
        rcases vG W.L.length with h0 | h0
        ·rw[iz.1 (eK.trans h0)]at cx;cases cx
        ·exact h0
       refine bO.mk (pw,pd,pu) (by omega) ((get_some gi).trans (congrArg some fp.symm)) ?_;obtain⟨i,hi⟩:∃i,i=bg pw W.L.length:=⟨_,rfl⟩
       have eE:i<W.L.length:=by rw[hi];exact pT gw
       have te:=fun σ=>s9 pw pd W.L.length σ (by omega);rw[← hi]at te;intro bp;refine aj 0 ?_;refine aa 0 ?_;refine ax [] (te _) ?_;refine aa 2 ?_;refine aO ?_;cases hd:dn[i] with
       |true=>
        refine aW 1 rfl (uf (by omega) hd) ?_;refine aa 2 ?_;refine aj 2 ?_;refine .mk (s,st,dn,us+1) rfl (by show ar.length-(us+1)<ar.length-us;omega) (HX hI mG cx gi fp hi (by omega) hd) ⟨rfl,rfl,rfl,rfl,rfl,rfl,trivial⟩ (.drop 0 1 (.pull [2,2,0] (aL ?_)));show _=(br,[AV.ae ba 0 W.L.length 1,AV.ae bd 0 W.L.length 1,AV.int .i64 ((us+1:Nat):Int)])::_;rw[← mM];rfl
       |false=>
        refine aW 1 rfl (uf (by omega) hd) ?_
        rcases W.mach i eE with hm | ⟨t,r,hm,gS,hMe,ie⟩
        ·have:=sk i eE hm;rw[bB (by show i<dn.length;omega)]at this;exact absurd (hd.symm.trans (Option.some.inj this)) (by decide)
        refine .sched [] (ru [0,2,3,4,5,6,7,8,9] (.alt 1 (cJ [10,11,12]) (cJ [10,1,11,12]))) (by kernel_rfl) ?_;refine aO ?_;refine fg.mk 5 _ (AV.iface t (.ptr r 0)) rfl (BR eE hm) ?_;refine aa 0 ?_;refine And.intro ?_ ?_
        ·refine aa 2 ?_;refine W.aStep [_,_,_,_,_,_] hMe ie hf fun s' eg=>?_;refine aO ?_;refine cU 1 rfl (ue _ (by omega)) ?_;refine aa 2 ?_;refine aO ?_;refine aW 3 rfl (x5 (by omega)) ?_;refine aO ?_;refine cU 3 rfl (xZ _ (by omega)) ?_;refine aa 2 ?_;refine aj 2 ?_;refine .mk (s',(st.set i (wr (st.getD i 0+1))),(dn.set i (W.step (W.abs s) i pd).2),us+1) rfl (by show ar.length-(us+1)<ar.length-us;omega) (xW hI mG cx gi fp hi eE hd eg) ⟨rfl,rfl,rfl,rfl,rfl,rfl,trivial⟩ (.drop 0 1 (.pull [2,2,0] (aL ?_)));show _=(br,[AV.ae ba 0 W.L.length 1,AV.ae bd 0 W.L.length 1,AV.int .i64 ((us+1:Nat):Int)])::_;rw[← mM];rfl
        ·refine W.aStep [_,_,_,_,_,_] hMe ie hf fun s' eg=>?_;refine aa 2 ?_;refine aO ?_;refine cU 1 rfl (ue _ (by omega)) ?_;refine aa 2 ?_;refine aO ?_;refine aW 3 rfl (x5 (by omega)) ?_;refine aO ?_;refine cU 3 rfl (xZ _ (by omega)) ?_;refine aa 2 ?_;refine aj 2 ?_;refine .mk (s',(st.set i (wr (st.getD i 0+1))),(dn.set i (W.step (W.abs s) i pd).2),us+1) rfl (by show ar.length-(us+1)<ar.length-us;omega) (xW hI mG cx gi fp hi eE hd eg) ⟨rfl,rfl,rfl,rfl,rfl,rfl,trivial⟩ (.drop 0 1 (.pull [2,2,0] (aL ?_)));show _=(br,[AV.ae ba 0 W.L.length 1,AV.ae bd 0 W.L.length 1,AV.int .i64 ((us+1:Nat):Int)])::_;rw[← mM];rfl
    |false=>
     refine aW 1 rfl (uf (by omega) hd) ?_
     rcases W.mach i eE with hm | ⟨t,r,hm,gS,hMe,ie⟩
     ·have:=sk i eE hm;rw[bB (by show i<dn.length;omega)]at this;exact absurd (hd.symm.trans (Option.some.inj this)) (by decide)
     refine .sched [] (ru [0,2,3,4,5,6,7,8,9] (.alt 1 (cJ [10,11,12]) (cJ [10,1,11,12]))) (by kernel_rfl) ?_;refine aO ?_;refine fg.mk 5 _ (AV.iface t (.ptr r 0)) rfl (BR eE hm) ?_;refine aa 0 ?_;refine And.intro ?_ ?_
     ·refine aa 2 ?_;refine W.aStep [_,_,_,_,_,_] hMe ie hf fun s' eg=>?_;refine aO ?_;refine cU 1 rfl (ue _ (by omega)) ?_;refine aa 2 ?_;refine aO ?_;refine aW 3 rfl (x5 (by omega)) ?_;refine aO ?_;refine cU 3 rfl (xZ _ (by omega)) ?_;refine aa 2 ?_;refine aj 2 ?_;refine .loop (S:=W.S×List Int×List Bool×Nat) (fun _=>0) (fun _=>[(0,W.mv),(1,.ae lb 0 W.L.length 1),(2,.ah (.field (.int .i64) (.field (.int .i64) .nil)) ar),(3,.jd),(8,.ptr aF 0),(9,.ptr br 0)]) (fun x=>(br,[.ae ba 0 W.L.length 1,.ae bd 0 W.L.length 1,.int .i64 x.2.2.2])::(ba,kY x.2.1)::(bd,j8 x.2.2.1)::(aF,[.an,.an,.int .i64 0])::(lb,W.L)::(W.B x.1++σ)) (wW W ar a0) (fun x=>ar.length-x.2.2.2) (s',(st.set i (wr (st.getD i 0+1))),(dn.set i (W.step (W.abs s) i pd).2),us+1) ⟨rfl,(xW hI mG cx gi fp hi eE hd eg),⟨rfl,rfl,rfl,rfl,rfl,rfl,trivial⟩,.drop 0 1 (.pull [2,2,0] (aL ?_))⟩ ?_
      ·show _=(br,[AV.ae ba 0 W.L.length 1,AV.ae bd 0 W.L.length 1,AV.int .i64 ((us+1:Nat):Int)])::_;rw[← mM];rfl
      rintro⟨s,st,dn,us⟩ g hI;have ⟨gv,cT,eK,sk,hf,Gg⟩:=hI;have gv:us≤ar.length:=gv;have cT:st.length=W.L.length:=cT;have eK:dn.length=W.L.length:=eK;have hF:=fun σ=>Jq (.ae ba 0 W.L.length 1) us bd dn σ (by omega);rw[eK]at hF;refine aa 0 ?_;refine ao (fun c1=>?_) (fun c1=>?_)
      ·have c1:(↑us:Int)=(↑ar.length:Int):=c1;have hE:=yb hI (.inl (by show us=_;omega));refine aa 0 ?_;refine aj 3 ?_;refine aa 3 ?_;refine .cN 1 ba 0 W.L.length 1 _ (.int .i64) st rfl (x6 cT) ⟨cT,rfl,by decide⟩ (nX .here (.refl _) (.refl _) rfl rfl rfl) ?_;refine .cN 1 bd 0 W.L.length 1 _ .bool dn rfl (yc eK) ⟨eK,rfl,by decide⟩ (nX (.refl _) .here (.refl _) rfl rfl rfl) ?_;exact .drop 0 2 (.done ⟨s,by rw[hE],by rw[hE],rfl⟩)
      ·have c1:¬((↑us:Int)=(↑ar.length:Int)):=c1;refine aa 0 ?_;refine ax [2] (hF _) ?_;cases cx:dn.all id with
       |true=>
        have hE:=yb hI (.inr cx);refine aa 1 ?_;refine aj 3 ?_;refine aa 3 ?_;refine .cN 2 ba 0 W.L.length 1 _ (.int .i64) st rfl (x6 cT) ⟨cT,rfl,by decide⟩ (nX .here (.refl _) (.refl _) rfl rfl rfl) ?_;refine .cN 0 bd 0 W.L.length 1 _ .bool dn rfl (yc eK) ⟨eK,rfl,by decide⟩ (nX (.refl _) .here (.refl _) rfl rfl rfl) ?_;exact .drop 0 2 (.done ⟨s,by rw[hE],by rw[hE],rfl⟩)
       |false=>
        refine aa 1 ?_;refine aJ.mk rfl ?_;have gi:us<ar.length:=by omega
        have mM:AV.int .i64 (IntKind.i64.wrap ((us:Int)+1))=AV.int .i64 ((us+1:Nat):Int):=aX (by omega);obtain⟨pk,fp⟩:∃pk,pk=ar[us]:=⟨_,rfl⟩
        obtain⟨pw,pd,pu⟩:=pk
        have gw:0<W.L.length:=by
         rcases vG W.L.length with h0 | h0
         ·rw[iz.1 (eK.trans h0)]at cx;cases cx
         ·exact h0
        refine bO.mk (pw,pd,pu) (by omega) ((get_some gi).trans (congrArg some fp.symm)) ?_;obtain⟨i,hi⟩:∃i,i=bg pw W.L.length:=⟨_,rfl⟩
        have eE:i<W.L.length:=by rw[hi];exact pT gw
        have te:=fun σ=>s9 pw pd W.L.length σ (by omega);rw[← hi]at te;intro bp;refine aj 0 ?_;refine aa 0 ?_;refine ax [] (te _) ?_;refine aa 2 ?_;refine aO ?_;cases hd:dn[i] with
        |true=>
         refine aW 1 rfl (uf (by omega) hd) ?_;refine aa 2 ?_;refine aj 2 ?_;refine .mk (s,st,dn,us+1) rfl (by show ar.length-(us+1)<ar.length-us;omega) (HX hI mG cx gi fp hi (by omega) hd) ⟨rfl,rfl,rfl,rfl,rfl,rfl,trivial⟩ (.drop 0 1 (.pull [2,2,0] (aL ?_)));show _=(br,[AV.ae ba 0 W.L.length 1,AV.ae bd 0 W.L.length 1,AV.int .i64 ((us+1:Nat):Int)])::_;rw[← mM];rfl
        |false=>
         refine aW 1 rfl (uf (by omega) hd) ?_
         rcases W.mach i eE with hm | ⟨t,r,hm,gS,hMe,ie⟩
         ·have:=sk i eE hm;rw[bB (by show i<dn.length;omega)]at this;exact absurd (hd.symm.trans (Option.some.inj this)) (by decide)
         refine .sched [] (ru [0,2,3,4,5,6,7,8,9] (.alt 1 (cJ [10,11,12]) (cJ [10,1,11,12]))) (by kernel_rfl) ?_;refine aO ?_;refine fg.mk 5 _ (AV.iface t (.ptr r 0)) rfl (BR eE hm) ?_;refine aa 0 ?_;refine And.intro ?_ ?_
         ·refine aa 2 ?_;refine W.aStep [_,_,_,_,_,_] hMe ie hf fun s' eg=>?_;refine aO ?_;refine cU 1 rfl (ue _ (by omega)) ?_;refine aa 2 ?_;refine aO ?_;refine aW 3 rfl (x5 (by omega)) ?_;refine aO ?_;refine cU 3 rfl (xZ _ (by omega)) ?_;refine aa 2 ?_;refine aj 2 ?_;refine .mk (s',(st.set i (wr (st.getD i 0+1))),(dn.set i (W.step (W.abs s) i pd).2),us+1) rfl (by show ar.length-(us+1)<ar.length-us;omega) (xW hI mG cx gi fp hi eE hd eg) ⟨rfl,rfl,rfl,rfl,rfl,rfl,trivial⟩ (.drop 0 1 (.pull [2,2,0] (aL ?_)));show _=(br,[AV.ae ba 0 W.L.length 1,AV.ae bd 0 W.L.length 1,AV.int .i64 ((us+1:Nat):Int)])::_;rw[← mM];rfl
         ·refine W.aStep [_,_,_,_,_,_] hMe ie hf fun s' eg=>?_;refine aa 2 ?_;refine aO ?_;refine cU 1 rfl (ue _ (by omega)) ?_;refine aa 2 ?_;refine aO ?_;refine aW 3 rfl (x5 (by omega)) ?_;refine aO ?_;refine cU 3 rfl (xZ _ (by omega)) ?_;refine aa 2 ?_;refine aj 2 ?_;refine .mk (s',(st.set i (wr (st.getD i 0+1))),(dn.set i (W.step (W.abs s) i pd).2),us+1) rfl (by show ar.length-(us+1)<ar.length-us;omega) (xW hI mG cx gi fp hi eE hd eg) ⟨rfl,rfl,rfl,rfl,rfl,rfl,trivial⟩ (.drop 0 1 (.pull [2,2,0] (aL ?_)));show _=(br,[AV.ae ba 0 W.L.length 1,AV.ae bd 0 W.L.length 1,AV.int .i64 ((us+1:Nat):Int)])::_;rw[← mM];rfl
     ·refine W.aStep [_,_,_,_,_,_] hMe ie hf fun s' eg=>?_;refine aa 2 ?_;refine aO ?_;refine cU 1 rfl (ue _ (by omega)) ?_;refine aa 2 ?_;refine aO ?_;refine aW 3 rfl (x5 (by omega)) ?_;refine aO ?_;refine cU 3 rfl (xZ _ (by omega)) ?_;refine aa 2 ?_;refine aj 2 ?_;refine .loop (S:=W.S×List Int×List Bool×Nat) (fun _=>0) (fun _=>[(0,W.mv),(1,.ae lb 0 W.L.length 1),(2,.ah (.field (.int .i64) (.field (.int .i64) .nil)) ar),(3,.jd),(8,.ptr aF 0),(9,.ptr br 0)]) (fun x=>(br,[.ae ba 0 W.L.length 1,.ae bd 0 W.L.length 1,.int .i64 x.2.2.2])::(ba,kY x.2.1)::(bd,j8 x.2.2.1)::(aF,[.an,.an,.int .i64 0])::(lb,W.L)::(W.B x.1++σ)) (wW W ar a0) (fun x=>ar.length-x.2.2.2) (s',(st.set i (wr (st.getD i 0+1))),(dn.set i (W.step (W.abs s) i pd).2),us+1) ⟨rfl,(xW hI mG cx gi fp hi eE hd eg),⟨rfl,rfl,rfl,rfl,rfl,rfl,trivial⟩,.drop 0 1 (.pull [2,2,0] (aL ?_))⟩ ?_
      ·show _=(br,[AV.ae ba 0 W.L.length 1,AV.ae bd 0 W.L.length 1,AV.int .i64 ((us+1:Nat):Int)])::_;rw[← mM];rfl
      rintro⟨s,st,dn,us⟩ g hI;have ⟨gv,cT,eK,sk,hf,Gg⟩:=hI;have gv:us≤ar.length:=gv;have cT:st.length=W.L.length:=cT;have eK:dn.length=W.L.length:=eK;have hF:=fun σ=>Jq (.ae ba 0 W.L.length 1) us bd dn σ (by omega);rw[eK]at hF;refine aa 0 ?_;refine ao (fun c1=>?_) (fun c1=>?_)
      ·have c1:(↑us:Int)=(↑ar.length:Int):=c1;have hE:=yb hI (.inl (by show us=_;omega));refine aa 0 ?_;refine aj 3 ?_;refine aa 3 ?_;refine .cN 1 ba 0 W.L.length 1 _ (.int .i64) st rfl (x6 cT) ⟨cT,rfl,by decide⟩ (nX .here (.refl _) (.refl _) rfl rfl rfl) ?_;refine .cN 1 bd 0 W.L.length 1 _ .bool dn rfl (yc eK) ⟨eK,rfl,by decide⟩ (nX (.refl _) .here (.refl _) rfl rfl rfl) ?_;exact .drop 0 2 (.done ⟨s,by rw[hE],by rw[hE],rfl⟩)
      ·have c1:¬((↑us:Int)=(↑ar.length:Int)):=c1;refine aa 0 ?_;refine ax [2] (hF _) ?_;cases cx:dn.all id with
       |true=>
        have hE:=yb hI (.inr cx);refine aa 1 ?_;refine aj 3 ?_;refine aa 3 ?_;refine .cN 2 ba 0 W.L.length 1 _ (.int .i64) st rfl (x6 cT) ⟨cT,rfl,by decide⟩ (nX .here (.refl _) (.refl _) rfl rfl rfl) ?_;refine .cN 0 bd 0 W.L.length 1 _ .bool dn rfl (yc eK) ⟨eK,rfl,by decide⟩ (nX (.refl _) .here (.refl _) rfl rfl rfl) ?_;exact .drop 0 2 (.done ⟨s,by rw[hE],by rw[hE],rfl⟩)
       |false=>
        refine aa 1 ?_;refine aJ.mk rfl ?_;have gi:us<ar.length:=by omega
        have mM:AV.int .i64 (IntKind.i64.wrap ((us:Int)+1))=AV.int .i64 ((us+1:Nat):Int):=aX (by omega);obtain⟨pk,fp⟩:∃pk,pk=ar[us]:=⟨_,rfl⟩
        obtain⟨pw,pd,pu⟩:=pk
        have gw:0<W.L.length:=by
         rcases vG W.L.length with h0 | h0
         ·rw[iz.1 (eK.trans h0)]at cx;cases cx
         ·exact h0
        refine bO.mk (pw,pd,pu) (by omega) ((get_some gi).trans (congrArg some fp.symm)) ?_;obtain⟨i,hi⟩:∃i,i=bg pw W.L.length:=⟨_,rfl⟩
        have eE:i<W.L.length:=by rw[hi];exact pT gw
        have te:=fun σ=>s9 pw pd W.L.length σ (by omega);rw[← hi]at te;intro bp;refine aj 0 ?_;refine aa 0 ?_;refine ax [] (te _) ?_;refine aa 2 ?_;refine aO ?_;cases hd:dn[i] with
        |true=>
         refine aW 1 rfl (uf (by omega) hd) ?_;refine aa 2 ?_;refine aj 2 ?_;refine .mk (s,st,dn,us+1) rfl (by show ar.length-(us+1)<ar.length-us;omega) (HX hI mG cx gi fp hi (by omega) hd) ⟨rfl,rfl,rfl,rfl,rfl,rfl,trivial⟩ (.drop 0 1 (.pull [2,2,0] (aL ?_)));show _=(br,[AV.ae ba 0 W.L.length 1,AV.ae bd 0 W.L.length 1,AV.int .i64 ((us+1:Nat):Int)])::_;rw[← mM];rfl
        |false=>
         refine aW 1 rfl (uf (by omega) hd) ?_
         rcases W.mach i eE with hm | ⟨t,r,hm,gS,hMe,ie⟩
         ·have:=sk i eE hm;rw[bB (by show i<dn.length;omega)]at this;exact absurd (hd.symm.trans (Option.some.inj this)) (by decide)
         refine .sched [] (ru [0,2,3,4,5,6,7,8,9] (.alt 1 (cJ [10,11,12]) (cJ [10,1,11,12]))) (by kernel_rfl) ?_;refine aO ?_;refine fg.mk 5 _ (AV.iface t (.ptr r 0)) rfl (BR eE hm) ?_;refine aa 0 ?_;refine And.intro ?_ ?_
         ·refine aa 2 ?_;refine W.aStep [_,_,_,_,_,_] hMe ie hf fun s' eg=>?_;refine aO ?_;refine cU 1 rfl (ue _ (by omega)) ?_;refine aa 2 ?_;refine aO ?_;refine aW 3 rfl (x5 (by omega)) ?_;refine aO ?_;refine cU 3 rfl (xZ _ (by omega)) ?_;refine aa 2 ?_;refine aj 2 ?_;refine .mk (s',(st.set i (wr (st.getD i 0+1))),(dn.set i (W.step (W.abs s) i pd).2),us+1) rfl (by show ar.length-(us+1)<ar.length-us;omega) (xW hI mG cx gi fp hi eE hd eg) ⟨rfl,rfl,rfl,rfl,rfl,rfl,trivial⟩ (.drop 0 1 (.pull [2,2,0] (aL ?_)));show _=(br,[AV.ae ba 0 W.L.length 1,AV.ae bd 0 W.L.length 1,AV.int .i64 ((us+1:Nat):Int)])::_;rw[← mM];rfl
         ·refine W.aStep [_,_,_,_,_,_] hMe ie hf fun s' eg=>?_;refine aa 2 ?_;refine aO ?_;refine cU 1 rfl (ue _ (by omega)) ?_;refine aa 2 ?_;refine aO ?_;refine aW 3 rfl (x5 (by omega)) ?_;refine aO ?_;refine cU 3 rfl (xZ _ (by omega)) ?_;refine aa 2 ?_;refine aj 2 ?_;refine .mk (s',(st.set i (wr (st.getD i 0+1))),(dn.set i (W.step (W.abs s) i pd).2),us+1) rfl (by show ar.length-(us+1)<ar.length-us;omega) (xW hI mG cx gi fp hi eE hd eg) ⟨rfl,rfl,rfl,rfl,rfl,rfl,trivial⟩ (.drop 0 1 (.pull [2,2,0] (aL ?_)));show _=(br,[AV.ae ba 0 W.L.length 1,AV.ae bd 0 W.L.length 1,AV.int .i64 ((us+1:Nat):Int)])::_;rw[← mM];rfl
end Go.Proofs.YtnikdflhefijbaaGreat
