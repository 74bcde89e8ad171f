import Derived.Test.YtnikdflhefijbaaGreatBn5
namespace Go.Proofs.YtnikdflhefijbaaGreat
open Go.RowKit
structure j7 where
 A:Type
 ld:A→Int→Int×A
 st:A→Int→Int→A
 cs:A→Int→Int→Int→Bool×A
 ad:A→Int→Int→Int×A
 ln:A→Int
 free:A→Prop
abbrev bC:j7 where
 A:=List Int
 ld ws a:=(cN ws a,ws)
 st ws a x:=gZ ws a x
 cs ws a x y:=(nE ws a x,iU ws a x y)
 ad ws a d:=(Er ws a d,nm ws a d)
 ln ws:=ws.length
 free _:=True
structure AMem where
 O:j7
 S:Type
 abs:S→O.A
 B:S→Hp
 t:TypeId
 p:Nat
 load : ∃ g, Meth Tryz.prog t "Load" g ∧ ∀ (s : S) (a : Int) (σ : Hp), O.free (abs s) → ACalls Tryz.prog g [.ptr p 0, .int .i64 a] (B s ++ σ) (fun r σ' => ∃ s', abs s' = (O.ld (abs s) a).2 ∧ r = .int .u64 (O.ld (abs s) a).1 ∧ σ' = B s' ++ σ)
 store : ∃ g, Meth Tryz.prog t "Store" g ∧ ∀ (s : S) (a x : Int) (σ : Hp), O.free (abs s) → ACalls Tryz.prog g [.ptr p 0, .int .i64 a, .int .u64 x] (B s ++ σ) (fun r σ' => ∃ s', abs s' = O.st (abs s) a x ∧ r = .tup [] ∧ σ' = B s' ++ σ)
 cas : ∃ g, Meth Tryz.prog t "CAS" g ∧ ∀ (s : S) (a x y : Int) (σ : Hp), O.free (abs s) → ACalls Tryz.prog g [.ptr p 0, .int .i64 a, .int .u64 x, .int .u64 y] (B s ++ σ) (fun r σ' => ∃ s', abs s' = (O.cs (abs s) a x y).2 ∧ r = .bool (O.cs (abs s) a x y).1 ∧ σ' = B s' ++ σ)
 add : ∃ g, Meth Tryz.prog t "Add" g ∧ ∀ (s : S) (a d : Int) (σ : Hp), O.free (abs s) → ACalls Tryz.prog g [.ptr p 0, .int .i64 a, .int .u64 d] (B s ++ σ) (fun r σ' => ∃ s', abs s' = (O.ad (abs s) a d).2 ∧ r = .int .u64 (O.ad (abs s) a d).1 ∧ σ' = B s' ++ σ)
 hL : AheadOk Tryz.prog t "Load"
 hS : AheadOk Tryz.prog t "Store"
 hC : AheadOk Tryz.prog t "CAS"
 hA : AheadOk Tryz.prog t "Add"
 len : ∃ g, Meth Tryz.prog t "Len" g ∧ ∀ (s : S) (σ : Hp), ACalls Tryz.prog g [.ptr p 0] (B s ++ σ) (fun r σ' => ∃ s', abs s' = abs s ∧ r = .int .i64 (O.ln (abs s)) ∧ σ' = B s' ++ σ)
abbrev AMem.v(M:AMem):AV:=.iface M.t (.ptr M.p 0)
theorem tw(fr b σ:Hp):(b++(fr++σ)).Perm (fr++(b++σ)):=by
 rw[← dQ,← dQ]
 exact List.Perm.append_right _ Pq
section
variable (M:AMem) (fr:Hp) {s:M.S} {σ:Hp} {K:AV→Hp→Prop}
theorem AMem.aLoad {a : Int} (hf : M.O.free (M.abs s)) (k : ∀ s', M.abs s' = (M.O.ld (M.abs s) a).2 → K (.int .u64 (M.O.ld (M.abs s) a).1) (fr ++ (M.B s' ++ σ))) : InvAt Tryz.prog M.t "Load" fun g => CallAt Tryz.prog g K [.ptr M.p 0, .int .i64 a] (fr ++ (M.B s ++ σ)) := by
 obtain⟨g,h1,h2⟩:=M.load
 refine⟨g,h1,.perm _ (tw fr (M.B s) σ) (h2 s a (fr++σ) hf) ?_⟩
 rintro r σ' ⟨s',h3,rfl,rfl⟩
 exact⟨_,(tw fr (M.B s') σ).symm,k s' h3⟩
theorem AMem.aStore {a x : Int} (hf : M.O.free (M.abs s)) (k : ∀ s', M.abs s' = M.O.st (M.abs s) a x → K (.tup []) (fr ++ (M.B s' ++ σ))) : InvAt Tryz.prog M.t "Store" fun g => CallAt Tryz.prog g K [.ptr M.p 0, .int .i64 a, .int .u64 x] (fr ++ (M.B s ++ σ)) := by
 obtain⟨g,h1,h2⟩:=M.store
 refine⟨g,h1,.perm _ (tw fr (M.B s) σ) (h2 s a x (fr++σ) hf) ?_⟩
 rintro r σ' ⟨s',h3,rfl,rfl⟩
 exact⟨_,(tw fr (M.B s') σ).symm,k s' h3⟩
theorem AMem.aCas {a x y : Int} (hf : M.O.free (M.abs s)) (k : ∀ s', M.abs s' = (M.O.cs (M.abs s) a x y).2 → K (.bool (M.O.cs (M.abs s) a x y).1) (fr ++ (M.B s' ++ σ))) : InvAt Tryz.prog M.t "CAS" fun g => CallAt Tryz.prog g K [.ptr M.p 0, .int .i64 a, .int .u64 x, .int .u64 y] (fr ++ (M.B s ++ σ)) := by
 obtain⟨g,h1,h2⟩:=M.cas
 refine⟨g,h1,.perm _ (tw fr (M.B s) σ) (h2 s a x y (fr++σ) hf) ?_⟩
 rintro r σ' ⟨s',h3,rfl,rfl⟩
 exact⟨_,(tw fr (M.B s') σ).symm,k s' h3⟩
theorem AMem.aCasB {a x y : Int} (hf : M.O.free (M.abs s)) (k1 : ∀ s', M.abs s' = (M.O.cs (M.abs s) a x y).2 → (M.O.cs (M.abs s) a x y).1 = true → K (.bool true) (fr ++ (M.B s' ++ σ))) (k2 : ∀ s', M.abs s' = (M.O.cs (M.abs s) a x y).2 → (M.O.cs (M.abs s) a x y).1 = false → K (.bool false) (fr ++ (M.B s' ++ σ))) : InvAt Tryz.prog M.t "CAS" fun g => CallAt Tryz.prog g K [.ptr M.p 0, .int .i64 a, .int .u64 x, .int .u64 y] (fr ++ (M.B s ++ σ)) :=
 M.aCas fr hf fun s' h=>by
  cases hb:(M.O.cs (M.abs s) a x y).1 with
  |true=>exact k1 s' h hb
  |false=>exact k2 s' h hb
theorem AMem.aAdd {a d : Int} (hf : M.O.free (M.abs s)) (k : ∀ s', M.abs s' = (M.O.ad (M.abs s) a d).2 → K (.int .u64 (M.O.ad (M.abs s) a d).1) (fr ++ (M.B s' ++ σ))) : InvAt Tryz.prog M.t "Add" fun g => CallAt Tryz.prog g K [.ptr M.p 0, .int .i64 a, .int .u64 d] (fr ++ (M.B s ++ σ)) := by
 obtain⟨g,h1,h2⟩:=M.add
 refine⟨g,h1,.perm _ (tw fr (M.B s) σ) (h2 s a d (fr++σ) hf) ?_⟩
 rintro r σ' ⟨s',h3,rfl,rfl⟩
 exact⟨_,(tw fr (M.B s') σ).symm,k s' h3⟩
end
def uZ(p q:Nat):AMem where
 O:=bC
 S:=List Int
 abs ws:=ws
 B ws:=[(p,uf q ws.length),(q,bz ws)]
 t:=94
 p:=p
 load:=⟨_,mLoad_,fun ws a σ _=>(Go.Proofs.YtnikdflhefijbaaGreat.aLoad p q ws a σ).mono fun _ _ h=>⟨ws,rfl,h.1,h.2⟩⟩
 store:=⟨_,mStore_,fun ws a x σ _=>(Go.Proofs.YtnikdflhefijbaaGreat.aStore p q ws a x σ).mono fun _ _ h=>⟨_,rfl,h.1,h.2⟩⟩
 cas:=⟨_,mCAS_,fun ws a x y σ _=>(Go.Proofs.YtnikdflhefijbaaGreat.aCas p q ws a x y σ).mono fun _ _ h=>⟨_,rfl,h.1,h.2⟩⟩
 add:=⟨_,mAdd_,fun ws a d σ _=>(Go.Proofs.YtnikdflhefijbaaGreat.aAdd p q ws a d σ).mono fun _ _ h=>⟨_,rfl,h.1,h.2⟩⟩
 hL:=hLoad_
 hS:=hStore_
 hC:=hCAS_
 hA:=hAdd_
 len:=⟨_,mLen_,fun ws σ=>(Go.Proofs.YtnikdflhefijbaaGreat.Xb p q ws σ).mono fun _ _ h=>⟨ws,rfl,h.1,h.2⟩⟩
set_option maxRecDepth 100000
abbrev wr(n:Int):Int:=IntKind.i64.wrap n
structure Tk where
 f:Int
 c:Int
 v:Int
 new:Bool
 ended:Bool
 jS:Bool
def zE(t:Tk):List AV:=[.int .i64 t.f,.int .i64 t.c,.int .i64 t.v,.bool t.new,.bool t.ended,.bool t.jS]
def kR(O:j7)(t:Tk)(a:O.A):Tk×O.A×Bool:=
 if t.ended then (t,a,true)
 else if t.jS then ({ t with ended:=true },(O.ad a t.c 1).2,true)
 else if 0≤t.v then
  (if (O.cs a (wr (t.f+t.v)) 0 1).1 then ({ t with jS:=true,new:=true },(O.cs a (wr (t.f+t.v)) 0 1).2,false) else ({ t with jS:=true,new:=false,ended:=true },(O.cs a (wr (t.f+t.v)) 0 1).2,true))
 else ({ t with jS:=true,new:=false,ended:=true },a,true)
def qA(M:AMem)(σ:Hp){X:Type}(B:X→List AV)(r:Nat)(res:X×M.O.A×Bool):AV→Hp→Prop:=
 fun x σ'=>∃m',M.abs m'=res.2.1∧x=.bool res.2.2∧σ'=(r,B res.1)::(M.B m'++σ)
theorem jY{M:AMem}{σ:Hp}{X:Type}{B:X→List AV}{r:Nat}{res:X×M.O.A×Bool}{x:X}{a:M.O.A}{b:Bool}{m':M.S}(h:res=(x,a,b))(hm:M.abs m'=a):qA M σ B r res (.bool b) ((r,B x)::(M.B m'++σ)):=by
 subst h
 exact⟨m',hm,rfl,rfl⟩
theorem Ik(M:AMem)(r:Nat)(t:Tk)(m:M.S)(d:Int)(σ:Hp)(hf:M.O.free (M.abs m)):ACalls Tryz.prog 408 [.ptr r 0,M.v,.int .i64 d] ((r,zE t)::(M.B m++σ)) (qA M σ zE r (kR M.O t (M.abs m))):=by
 refine au Tryz.func408 ?_
 refine eU.kC 0 _ _ rfl rfl (fun h0=>?_) (fun h0=>?_)
 ·exact .done (jY (x:=t) (by simp[kR,h0]) rfl)
 refine az [] (dF _ _ _) ?_
 refine eU.kC 0 _ _ rfl rfl (fun h1=>?_) (fun h1=>?_)
 ·refine .each (by kernel_rfl) ?_
  refine aa 0 ?_
  refine ff.mk M.hA ?_
  refine M.aAdd [_] hf fun m' hm=>?_
  refine .fwd 1 ?_
  refine aj 0 ?_
  exact .done (jY (x:= { t with ended:=true }) (by simp[kR,h0,h1]) hm)
 refine aj 0 ?_
 refine .each (by kernel_rfl) ?_
 by_cases h2:0≤t.v
 ·repeat' first
   |refine And.intro ?_ ?_
   |refine aa 0 ?_
   |refine ak (fun _=>?_) (fun h=>absurd h2 h)
   |refine ff.mk M.hC ?_
  all_goals
   refine M.aCasB [_] hf (fun m' hm hb=>?_) (fun m' hm hb=>?_)
   ·refine aj 0 ?_
    refine aa 0 ?_
    exact .done (jY (x:= { t with jS:=true,new:=true }) (by simp[kR,h0,h1,h2,hb]) hm)
   ·refine aj 0 ?_
    refine aa 0 ?_
    refine aj 0 ?_
    exact .done (jY (x:= { t with jS:=true,new:=false,ended:=true }) (by simp[kR,h0,h1,h2,hb]) hm)
 ·repeat' first
   |refine And.intro ?_ ?_
   |refine aa 0 ?_
   |refine ak (fun h=>absurd h h2) (fun _=>?_)
   |refine aj 0 ?_
  all_goals
   exact .done (jY (x:= { t with jS:=true,new:=false,ended:=true }) (by simp[kR,h0,h1,h2]) rfl)
structure Ck where
 f:Int
 c:Int
 v:Int
 ended:Bool
def FZ(t:Ck):List AV:=[.int .i64 t.f,.int .i64 t.c,.int .i64 t.v,.bool t.ended]
def sr(O:j7)(t:Ck)(a:O.A):Ck×O.A×Bool:=
 if t.ended then (t,a,true) else ({ t with ended:=true },if 0≤t.v then O.st a (wr (t.f+t.v)) 0 else a,true)
theorem VT(M:AMem)(r:Nat)(t:Ck)(m:M.S)(d:Int)(σ:Hp)(hf:M.O.free (M.abs m)):ACalls Tryz.prog 405 [.ptr r 0,M.v,.int .i64 d] ((r,FZ t)::(M.B m++σ)) (qA M σ FZ r (sr M.O t (M.abs m))):=by
 refine au Tryz.func405 ?_
 refine eU.kC 0 _ _ rfl rfl (fun h0=>?_) (fun h0=>?_)
 ·exact .done (jY (x:=t) (by simp[sr,h0]) rfl)
 refine aj 0 ?_
 refine aa 0 ?_
 refine ak (fun h2=>?_) (fun h2=>?_)
 ·have h2:0≤t.v:=h2
  refine .each (by kernel_rfl) ?_
  repeat' first
   |refine And.intro ?_ ?_
   |refine aa 0 ?_
   |refine az [] (dF _ _ _) ?_
   |refine ff.mk M.hS ?_
  all_goals
   refine M.aStore [_] hf fun m' hm=>?_
   exact .done (jY (x:= { t with ended:=true }) (by simp[sr,h0,h2]) hm)
 ·have h2:¬0≤t.v:=h2
  exact .done (jY (x:= { t with ended:=true }) (by simp[sr,h0,h2]) rfl)
structure Rk where
 f:Int
 c:Int
 left:Int
 ended:Bool
def ES(t:Rk):List AV:=[.int .i64 t.f,.int .i64 t.c,.int .i64 t.left,.bool t.ended]
def tJ(O:j7)(t:Rk)(a:O.A):Rk×O.A×Bool:=
 if t.ended then (t,a,true) else ({ t with ended:=true,left:=wr (O.ad a t.c 18446744073709551615).1 },(O.ad a t.c 18446744073709551615).2,true)
theorem UN(M:AMem)(r:Nat)(t:Rk)(m:M.S)(d:Int)(σ:Hp)(hf:M.O.free (M.abs m)):ACalls Tryz.prog 410 [.ptr r 0,M.v,.int .i64 d] ((r,ES t)::(M.B m++σ)) (qA M σ ES r (tJ M.O t (M.abs m))):=by
 refine au Tryz.func410 ?_
 refine eU.kC 0 _ _ rfl rfl (fun h0=>?_) (fun h0=>?_)
 ·exact .done (jY (x:=t) (by simp[tJ,h0]) rfl)
 refine aj 0 ?_
 refine .each (by kernel_rfl) ?_
 repeat' first
  |refine And.intro ?_ ?_
  |refine aa 0 ?_
  |refine az [] (dF _ _ _) ?_
  |refine ff.mk M.hA ?_
 all_goals
  refine M.aAdd [_] hf fun m' hm=>?_
  refine aj 0 ?_
  exact .done (jY (x:= { t with ended:=true,left:=wr (M.O.ad (M.abs m) t.c 18446744073709551615).1 }) (by simp[tJ,h0]) hm)
structure Qk where
 f:Int
 c:Int
 is:Bool
 ended:Bool
def EU(t:Qk):List AV:=[.int .i64 t.f,.int .i64 t.c,.bool t.is,.bool t.ended]
def sq(O:j7)(t:Qk)(a:O.A):Qk×O.A×Bool:=
 if t.ended then (t,a,true) else ({ t with ended:=true,is:=decide ((O.ld a t.c).1=0) },(O.ld a t.c).2,true)
theorem HV(M:AMem)(r:Nat)(t:Qk)(m:M.S)(d:Int)(σ:Hp)(hf:M.O.free (M.abs m)):ACalls Tryz.prog 404 [.ptr r 0,M.v,.int .i64 d] ((r,EU t)::(M.B m++σ)) (qA M σ EU r (sq M.O t (M.abs m))):=by
 refine au Tryz.func404 ?_
 refine eU.kC 0 _ _ rfl rfl (fun h0=>?_) (fun h0=>?_)
 ·exact .done (jY (x:=t) (by simp[sq,h0]) rfl)
 refine aj 0 ?_
 refine .each (by kernel_rfl) ?_
 repeat' first
  |refine And.intro ?_ ?_
  |refine aa 0 ?_
  |refine az [] (dF _ _ _) ?_
  |refine ff.mk M.hL ?_
 all_goals
  refine M.aLoad [_] hf fun m' hm=>?_
  refine ak (fun h2=>?_) (fun h2=>?_)
  ·have h2:(M.O.ld (M.abs m) t.c).1=0:=h2
   refine aj 0 ?_
   exact .done (jY (x:= { t with ended:=true,is:=true }) (by simp[sq,h0,h2]) hm)
  ·have h2:¬(M.O.ld (M.abs m) t.c).1=0:=h2
   refine aj 0 ?_
   exact .done (jY (x:= { t with ended:=true,is:=false }) (by simp[sq,h0,h2]) hm)
theorem af8(M:AMem)(f c:Int)(m:M.S)(σ:Hp)(hf:M.O.free (M.abs m)):ACalls Tryz.prog 46 [.agg [.int .i64 f,.int .i64 c],M.v] (M.B m++σ) (fun x σ'=>∃m',M.abs m'=(M.O.ld (M.abs m) c).2∧x=.int .i64 (wr (M.O.ld (M.abs m) c).1)∧σ'=M.B m'++σ):=by
 refine au Tryz.func46 ?_
 intro b
 refine .each (by kernel_rfl) ?_
 repeat' first
  |refine And.intro ?_ ?_
  |refine aa 0 ?_
  |refine az [] (dF _ _ _) ?_
 all_goals
  refine M.aLoad [_] hf fun m' hm=>?_
  exact .drop 0 1 (.done ⟨m',hm,rfl,rfl⟩)
theorem age(M:AMem)(f c v:Int)(m:M.S)(σ:Hp)(hf:M.O.free (M.abs m)):ACalls Tryz.prog 49 [.agg [.int .i64 f,.int .i64 c],M.v,.int .i64 v] (M.B m++σ) (fun x σ'=>∃m',M.abs m'=(if 0≤v then (M.O.ld (M.abs m) (wr (f+v))).2 else M.abs m)∧x=.bool (decide (0≤v)&&decide ((M.O.ld (M.abs m) (wr (f+v))).1=1))∧σ'=M.B m'++σ):=by
 refine au Tryz.func49 ?_
 intro b
 refine .each (by kernel_rfl) ?_
 by_cases h:0≤v
 ·repeat' first
   |refine And.intro ?_ ?_
   |refine ak (fun _=>?_) (fun h2=>absurd h h2)
   |refine aa 0 ?_
   |refine az [] (dF _ _ _) ?_
  all_goals
   refine M.aLoad [_] hf fun m' hm=>?_
   refine ak (fun h2=>?_) (fun h2=>?_)
   ·have h2:(M.O.ld (M.abs m) (wr (f+v))).1=1:=h2
    exact .drop 0 1 (.done ⟨m',by rw[if_pos h];exact hm,bY (by simp[h,h2]),rfl⟩)
   ·have h2:¬(M.O.ld (M.abs m) (wr (f+v))).1=1:=h2
    exact .drop 0 1 (.done ⟨m',by rw[if_pos h];exact hm,bY (by simp[h2]),rfl⟩)
 ·repeat' first
   |refine And.intro ?_ ?_
   |refine ak (fun h2=>absurd h2 h) (fun _=>?_)
  all_goals
   exact .drop 0 1 (.done ⟨m,by rw[if_neg h],bY (by simp[h]),rfl⟩)
theorem L2(f c:Int)(p q:Nat)(ws:List Int)(σ:Hp):ACalls Tryz.prog 46 [.agg [.int .i64 f,.int .i64 c],kB p] (bG p q ws σ) (aB (.int .i64 (wr (cN ws c))) (bG p q ws σ)):=
 (af8 (uZ p q) f c ws σ trivial).mono fun _ _ ⟨m',h1,h2,h3⟩=>by
  have h1:m'=ws:=h1
  subst h1
  exact⟨h2,h3⟩
theorem aeP(f c v:Int)(p q:Nat)(ws:List Int)(σ:Hp):ACalls Tryz.prog 49 [.agg [.int .i64 f,.int .i64 c],kB p,.int .i64 v] (bG p q ws σ) (aB (.bool (decide (0≤v)&&decide (cN ws (wr (f+v))=1))) (bG p q ws σ)):=
 (age (uZ p q) f c v ws σ trivial).mono fun _ _ ⟨m',h1,h2,h3⟩=>by
  have h1:m'=ws:=by
   refine h1.trans ?_
   show (if 0≤v then ws else ws)=ws
   split <;> rfl
  subst h1
  exact⟨h2,h3⟩
theorem QY{α:Type}{f:α→Hp}{l:List α}{j:Nat}(h:j<l.length):(l.flatMap f).Perm (f l[j]++(l.eraseIdx j).flatMap f):=by
 induction l generalizing j with
 |nil=>simp at h
 |cons x l ih=>
  cases j with
  |zero=>exact List.Perm.refl _
  |succ j=>
   rw[yh]
   have:=ih (j:=j) (by simpa using h)
   refine (List.Perm.append_left _ this).trans ?_
   simp only[List.getElem_cons_succ,List.eraseIdx_cons_succ,yh,← dQ]
   exact List.Perm.append_right _ Pq
theorem aao{α:Type}{f:α→Hp}{l:List α}{j:Nat}(h:j<l.length)(y:α):((l.set j y).flatMap f).Perm (f y++(l.eraseIdx j).flatMap f):=by
 have:=QY (f:=f) (l:=l.set j y) (j:=j) (by simpa using h)
 rw[List.getElem_set_self,Pn]at this
 exact this
set_option maxHeartbeats 4000000
theorem Lg{β:Type}(f:Nat→β)(c:β→AV)(i:Nat):((List.range (i+1)).map f).map c=((List.range i).map f).map c++[c (f i)]:=by
 rw[wJ,dr,dr];rfl
theorem N3{e k:Nat}{v:AV}{acc:Hp}{cs cs':List AV}(h:cs=cs')(ha:Acc e k v acc cs'):Acc e k v acc cs:=h▸ha
theorem agy(g:FuncId)(cap:List AV)(St:List Nat→Hp→Prop)(S0 σ:Hp)(h0:St [] S0)(n:Nat)(hn:n≤100000)(wj:∀(L:List Nat) (S τ:Hp),L.length<n→St L S→ACalls Tryz.prog g (.int .i64 L.length::cap) (S++τ) (fun r σ'=>∃w S',r=.ptr w 0∧σ'=S'++τ∧St (L++[w]) S')):ACalls Tryz.prog 98 [.int .i64 n,.fn (.func g) [] cap] (S0++σ) (fun r σ'=>∃L S' acc,L.length=n∧St L S'∧Acc 1 n r acc (L.map fun w=>.ptr w 0)∧σ'=acc++(S'++σ)):=by
 refine au Tryz.func98 ?_
 refine .wrap 5 .ai rfl rfl ?_
 refine cc (S:=List Nat×AV×Hp×{S:Hp // True}) (fun t=>[(1,.fn (.func g) [] cap),(5,.via t.2.1),(7,.int .i64 n),(8,.int .i64 t.1.length)]) (fun t=>t.2.2.1++(t.2.2.2.1++σ)) (fun t=>t.1.length≤n∧Acc 1 t.1.length t.2.1 t.2.2.1 (t.1.map (fun w=>AV.ptr w 0))∧St t.1 t.2.2.2.1) (fun t=>n-t.1.length) ([],.ai,[],⟨S0,trivial⟩) ⟨⟨bE _,.nil,h0⟩,⟨rfl,rfl,rfl,rfl,trivial⟩,rfl⟩ ?_
 rintro⟨L,v,acc,⟨S,_⟩⟩ g2 ⟨eD,h0,Ft⟩
 have hi:L.length≤n:=eD
 have h:Acc 1 L.length v acc (L.map (fun w=>AV.ptr w 0)):=h0
 have hS:St L S:=Ft
 clear eD h0 Ft
 refine ak (p:=(L.length:Int)<(n:Int)) (fun ab=>?_) (fun aq=>?_)
 rotate_left
 ·have aq:L.length=n:=by omega
  exact .done ⟨L,S,acc,aq,hS,aq▸h,rfl⟩
 have ab:L.length<n:=by omega
 refine .perm (σ2:=S++(acc++σ)) _ (eS acc S σ) (wj L S (acc++σ) ab hS) ?_
 rintro _ _ ⟨w,S',rfl,rfl,B6⟩
 refine⟨_,(eS acc S' σ).symm,?_⟩
 intro b1
 refine l8 [_] h (.af 0 b1 0 1 _ rfl (cR rfl)) rfl (by omega) (by decide) (by decide) (fun v' bQ h'=>?_)
 refine bg (L++[w],v',bQ,⟨S',trivial⟩) (by show n-(L++[w]).length<n-L.length;rw[bV];simp only[td];omega) ⟨by rw[bV];exact ab,?_,B6⟩ ⟨rfl,rfl,rfl,?_,trivial⟩ (.drop 0 1 (.refl _))
 ·show Acc 1 (L++[w]).length v' bQ ((L++[w]).map (fun w=>AV.ptr w 0))
  rw[bV,dr]
  exact h'
 ·rw[bV]
  exact a8 (show L.length<1000000000 by omega)
theorem VQ(g:FuncId)(cap:List AV)(St:List Nat→Hp→Prop)(S0 σ:Hp)(h0:St [] S0)(n:Nat)(hn:n≤100000)(wj:∀(L:List Nat) (S τ:Hp),L.length<n→St L S→ACalls Tryz.prog g (.int .i64 L.length::cap) (S++τ) (fun r σ'=>∃w S',r=.iface 168 (.ptr w 0)∧σ'=S'++τ∧St (L++[w]) S')):ACalls Tryz.prog 102 [.int .i64 n,.fn (.func g) [] cap] (S0++σ) (fun r σ'=>∃L S' acc,L.length=n∧St L S'∧Acc 1 n r acc (L.map fun w=>.iface 168 (.ptr w 0))∧σ'=acc++(S'++σ)):=by
 refine au Tryz.func102 ?_
 refine .wrap 5 .ai rfl rfl ?_
 refine cc (S:=List Nat×AV×Hp×{S:Hp // True}) (fun t=>[(1,.fn (.func g) [] cap),(5,.via t.2.1),(7,.int .i64 n),(8,.int .i64 t.1.length)]) (fun t=>t.2.2.1++(t.2.2.2.1++σ)) (fun t=>t.1.length≤n∧Acc 1 t.1.length t.2.1 t.2.2.1 (t.1.map (fun w=>AV.iface 168 (.ptr w 0)))∧St t.1 t.2.2.2.1) (fun t=>n-t.1.length) ([],.ai,[],⟨S0,trivial⟩) ⟨⟨bE _,.nil,h0⟩,⟨rfl,rfl,rfl,rfl,trivial⟩,rfl⟩ ?_
 rintro⟨L,v,acc,⟨S,_⟩⟩ g2 ⟨eD,h0,Ft⟩
 have hi:L.length≤n:=eD
 have h:Acc 1 L.length v acc (L.map (fun w=>AV.iface 168 (.ptr w 0))):=h0
 have hS:St L S:=Ft
 clear eD h0 Ft
 refine ak (p:=(L.length:Int)<(n:Int)) (fun ab=>?_) (fun aq=>?_)
 rotate_left
 ·have aq:L.length=n:=by omega
  exact .done ⟨L,S,acc,aq,hS,aq▸h,rfl⟩
 have ab:L.length<n:=by omega
 refine .perm (σ2:=S++(acc++σ)) _ (eS acc S σ) (wj L S (acc++σ) ab hS) ?_
 rintro _ _ ⟨w,S',rfl,rfl,B6⟩
 refine⟨_,(eS acc S' σ).symm,?_⟩
 intro b1
 refine l8 [_] h (.af 0 b1 0 1 _ rfl (cR rfl)) rfl (by omega) (by decide) (by decide) (fun v' bQ h'=>?_)
 refine bg (L++[w],v',bQ,⟨S',trivial⟩) (by show n-(L++[w]).length<n-L.length;rw[bV];simp only[td];omega) ⟨by rw[bV];exact ab,?_,B6⟩ ⟨rfl,rfl,rfl,?_,trivial⟩ (.drop 0 1 (.refl _))
 ·show Acc 1 (L++[w]).length v' bQ ((L++[w]).map (fun w=>AV.iface 168 (.ptr w 0)))
  rw[bV,dr]
  exact h'
 ·rw[bV]
  exact a8 (show L.length<1000000000 by omega)
theorem VR(g:FuncId)(cap:List AV)(S σ:Hp)(f:Nat→Int)(n:Nat)(hn:n≤100000)(wj:∀i:Nat,i<n→∀τ,ACalls Tryz.prog g (.int .i64 i::cap) (S++τ) (aB (.int .i64 (f i)) (S++τ))):ACalls Tryz.prog 50 [.int .i64 n,.fn (.func g) [] cap] (S++σ) (aB (.ae (.int .i64) ((List.range n).map f)) (S++σ)):=by
 refine au Tryz.func50 ?_
 refine .wrap 5 .ai rfl rfl ?_
 refine cc (S:=Nat×AV×Hp) (fun t=>[(1,.fn (.func g) [] cap),(5,.via t.2.1),(7,.int .i64 n),(8,.int .i64 t.1)]) (fun t=>t.2.2++(S++σ)) (fun t=>t.1≤n∧Acc 1 t.1 t.2.1 t.2.2 (((List.range t.1).map f).map (AV.int .i64))) (fun t=>n-t.1) (0,.ai,[]) ⟨⟨bE _,.nil⟩,⟨rfl,rfl,rfl,rfl,trivial⟩,rfl⟩ ?_
 rintro⟨i,v,acc⟩ g ⟨eD,h0⟩
 have hi:i≤n:=eD
 have h:Acc 1 i v acc (((List.range i).map f).map (AV.int .i64)):=h0
 clear eD h0
 refine ak (p:=(i:Int)<(n:Int)) (fun ab=>?_) (fun aq=>?_)
 rotate_left
 ·have aq:i=n:=by omega
  subst aq
  have hlen:((List.range i).map f).length=i:=by rw[cj,l0]
  exact tD [] (s:=(.int .i64)) h hlen.symm (Pj ..) Nat.one_pos (.done ⟨rfl,rfl⟩)
 have ab:i<n:=by omega
 refine .perm (σ2:=S++(acc++σ)) _ (eS acc S σ) (wj i ab (acc++σ)) ?_
 rintro _ _ ⟨rfl,rfl⟩
 refine⟨_,(eS acc S σ).symm,?_⟩
 intro b1
 refine l8 [_] h (.af 0 b1 0 1 _ rfl (cR rfl)) rfl (by omega) (by decide) (by decide) (fun v' bQ h'=>?_)
 refine bg (i+1,v',bQ) (by show n-(i+1)<n-i;omega) ⟨ab,?_⟩ ⟨rfl,rfl,rfl,a8 (by omega),trivial⟩ (.drop 0 1 (.refl _))
 show Acc 1 (i+1) v' bQ (((List.range (i+1)).map f).map (AV.int .i64))
 exact N3 (Lg f (AV.int .i64) i) h'
theorem agA(g:FuncId)(cap:List AV)(S σ:Hp)(f:Nat→Bool)(n:Nat)(hn:n≤100000)(wj:∀i:Nat,i<n→∀τ,ACalls Tryz.prog g (.int .i64 i::cap) (S++τ) (aB (.bool (f i)) (S++τ))):ACalls Tryz.prog 47 [.int .i64 n,.fn (.func g) [] cap] (S++σ) (aB (.ae .bool ((List.range n).map f)) (S++σ)):=by
 refine au Tryz.func47 ?_
 refine .wrap 5 .ai rfl rfl ?_
 refine cc (S:=Nat×AV×Hp) (fun t=>[(1,.fn (.func g) [] cap),(5,.via t.2.1),(7,.int .i64 n),(8,.int .i64 t.1)]) (fun t=>t.2.2++(S++σ)) (fun t=>t.1≤n∧Acc 1 t.1 t.2.1 t.2.2 (((List.range t.1).map f).map AV.bool)) (fun t=>n-t.1) (0,.ai,[]) ⟨⟨bE _,.nil⟩,⟨rfl,rfl,rfl,rfl,trivial⟩,rfl⟩ ?_
 rintro⟨i,v,acc⟩ g ⟨eD,h0⟩
 have hi:i≤n:=eD
 have h:Acc 1 i v acc (((List.range i).map f).map AV.bool):=h0
 clear eD h0
 refine ak (p:=(i:Int)<(n:Int)) (fun ab=>?_) (fun aq=>?_)
 rotate_left
 ·have aq:i=n:=by omega
  subst aq
  have hlen:((List.range i).map f).length=i:=by rw[cj,l0]
  exact tD [] (s:=.bool) h hlen.symm (Pj ..) Nat.one_pos (.done ⟨rfl,rfl⟩)
 have ab:i<n:=by omega
 refine .perm (σ2:=S++(acc++σ)) _ (eS acc S σ) (wj i ab (acc++σ)) ?_
 rintro _ _ ⟨rfl,rfl⟩
 refine⟨_,(eS acc S σ).symm,?_⟩
 intro b1
 refine l8 [_] h (.af 0 b1 0 1 _ rfl (cR rfl)) rfl (by omega) (by decide) (by decide) (fun v' bQ h'=>?_)
 refine bg (i+1,v',bQ) (by show n-(i+1)<n-i;omega) ⟨ab,?_⟩ ⟨rfl,rfl,rfl,a8 (by omega),trivial⟩ (.drop 0 1 (.refl _))
 show Acc 1 (i+1) v' bQ (((List.range (i+1)).map f).map AV.bool)
 exact N3 (Lg f AV.bool i) h'
theorem agz(g:FuncId)(cap:List AV)(S σ:Hp)(f:Nat→List Int)(n:Nat)(hn:n≤100000)(wj:∀i:Nat,i<n→∀τ,ACalls Tryz.prog g (.int .i64 i::cap) (S++τ) (aB (.ae (.int .u64) (f i)) (S++τ))):ACalls Tryz.prog 104 [.int .i64 n,.fn (.func g) [] cap] (S++σ) (aB (.ae (.slice (.int .u64)) ((List.range n).map f)) (S++σ)):=by
 refine au Tryz.func104 ?_
 refine .wrap 5 .ai rfl rfl ?_
 refine cc (S:=Nat×AV×Hp) (fun t=>[(1,.fn (.func g) [] cap),(5,.via t.2.1),(7,.int .i64 n),(8,.int .i64 t.1)]) (fun t=>t.2.2++(S++σ)) (fun t=>t.1≤n∧Acc 1 t.1 t.2.1 t.2.2 (((List.range t.1).map f).map (AV.ae (.int .u64)))) (fun t=>n-t.1) (0,.ai,[]) ⟨⟨bE _,.nil⟩,⟨rfl,rfl,rfl,rfl,trivial⟩,rfl⟩ ?_
 rintro⟨i,v,acc⟩ g ⟨eD,h0⟩
 have hi:i≤n:=eD
 have h:Acc 1 i v acc (((List.range i).map f).map (AV.ae (.int .u64))):=h0
 clear eD h0
 refine ak (p:=(i:Int)<(n:Int)) (fun ab=>?_) (fun aq=>?_)
 rotate_left
 ·have aq:i=n:=by omega
  subst aq
  have hlen:((List.range i).map f).length=i:=by rw[cj,l0]
  exact tD [] (s:=(.slice (.int .u64))) h hlen.symm (Pj ..) Nat.one_pos (.done ⟨rfl,rfl⟩)
 have ab:i<n:=by omega
 refine .perm (σ2:=S++(acc++σ)) _ (eS acc S σ) (wj i ab (acc++σ)) ?_
 rintro _ _ ⟨rfl,rfl⟩
 refine⟨_,(eS acc S σ).symm,?_⟩
 intro b1
 refine l8 [_] h (.af 0 b1 0 1 _ rfl (cR rfl)) rfl (by omega) (by decide) (by decide) (fun v' bQ h'=>?_)
 refine bg (i+1,v',bQ) (by show n-(i+1)<n-i;omega) ⟨ab,?_⟩ ⟨rfl,rfl,rfl,a8 (by omega),trivial⟩ (.drop 0 1 (.refl _))
 show Acc 1 (i+1) v' bQ (((List.range (i+1)).map f).map (AV.ae (.int .u64)))
 exact N3 (Lg f (AV.ae (.int .u64)) i) h'
end Go.Proofs.YtnikdflhefijbaaGreat
namespace Go.Proofs.YtnikdflhefijbaaGreat
def bS:List Nat→Nat
 | []=>0
 |b::l=>bS l*256+b
theorem CY(a b c d:Nat)(hb:b<256)(hd:d<256):(a*256+b) &&& (c*256+d)=(a &&& c)*256+(b &&& d):=by
 have zQ:b &&& d<256:=yg FH hb
 refine Cm fun i=>?_
 rw[JS,B8 a,B8 c,B8 (a &&& c),show (256:Nat)=2 ^ 8 by decide,Ps a hb,Ps c hd,Ps (a &&& c) zQ]
 split
 ·rw[JS]
 ·rw[JS]
def g1(b:Nat):Nat:=(b / 2 &&& 85)+(b &&& 85)
def g2(b:Nat):Nat:=(b / 4 &&& 51)+(b &&& 51)
def g3(b:Nat):Nat:=(b / 16+b) &&& 15
theorem ahe:∀h<2,∀b<256,(h*128+b / 2) &&& 85=b / 2 &&& 85:=by decide +kernel
theorem ahd:∀h<4,∀b<256,(h*64+b / 4) &&& 51=b / 4 &&& 51:=by decide +kernel
theorem aci:∀b<256,g1 b≤170:=by decide +kernel
theorem ach:∀b<256,g2 (g1 b) % 16≤4∧g2 (g1 b) / 16≤4:=by decide +kernel
theorem ahc:∀h≤4,∀l≤4,∀k≤4,(k*16+((h*16+l) / 16+(h*16+l))) &&& 15=g3 (h*16+l)∧k*16+((h*16+l) / 16+(h*16+l))<256:=by decide +kernel
def vC(b:Nat):Nat:=g3 (g2 (g1 b))
theorem uR:∀b<256,vC b≤8:=by decide +kernel
theorem Z4:∀b<256,vC b=0→b=0:=by decide +kernel
theorem U3:∀(l:List Nat),(∀b∈l,b<256)→(bS l / 2 &&& bS (l.map fun _=>85))+(bS l &&& bS (l.map fun _=>85))=bS (l.map g1)
 | [],_=>rfl
 |b::l,h=>by
  have hb:=h b (.head _)
  have ih:=U3 l (fun x hx=>h x (.tail _ hx))
  show (((bS l*256+b) / 2) &&& (bS (l.map fun _=>85)*256+85))+((bS l*256+b) &&& (bS (l.map fun _=>85)*256+85))=bS (l.map g1)*256+g1 b
  have e:(bS l*256+b) / 2=bS l / 2*256+(bS l % 2*128+b / 2):=by omega
  rw[e,CY _ _ _ _ (by omega) (by decide),CY _ _ _ _ hb (by decide),ahe _ (nT _ (by decide)) _ hb,← ih]
  show _=_*256+((b / 2 &&& 85)+(b &&& 85))
  generalize bS l / 2 &&& bS (l.map fun _=>85)=A
  generalize bS l &&& bS (l.map fun _=>85)=B
  generalize b / 2 &&& 85=C
  generalize b &&& 85=D
  omega
theorem U2:∀(l:List Nat),(∀b∈l,b<256)→(bS l / 4 &&& bS (l.map fun _=>51))+(bS l &&& bS (l.map fun _=>51))=bS (l.map g2)
 | [],_=>rfl
 |b::l,h=>by
  have hb:=h b (.head _)
  have ih:=U2 l (fun x hx=>h x (.tail _ hx))
  show (((bS l*256+b) / 4) &&& (bS (l.map fun _=>51)*256+51))+((bS l*256+b) &&& (bS (l.map fun _=>51)*256+51))=bS (l.map g2)*256+g2 b
  have e:(bS l*256+b) / 4=bS l / 4*256+(bS l % 4*64+b / 4):=by omega
  rw[e,CY _ _ _ _ (by omega) (by decide),CY _ _ _ _ hb (by decide),ahd _ (nT _ (by decide)) _ hb,← ih]
  show _=_*256+((b / 4 &&& 51)+(b &&& 51))
  generalize bS l / 4 &&& bS (l.map fun _=>51)=A
  generalize bS l &&& bS (l.map fun _=>51)=B
  generalize b / 4 &&& 51=C
  generalize b &&& 51=D
  omega
theorem aba:∀(l:List Nat),(∀b∈l,b % 16≤4∧b / 16≤4)→bS l % 16≤4
 | [],_=>by decide
 |b::l,h=>by
  have:=(h b (.head _)).1
  show (bS l*256+b) % 16≤4
  omega
theorem U1:∀(l:List Nat),(∀b∈l,b % 16≤4∧b / 16≤4)→((bS l / 16+bS l) &&& bS (l.map fun _=>15))=bS (l.map g3)
 | [],_=>rfl
 |b::l,h=>by
  obtain⟨h1,h2⟩:=h b (.head _)
  have ih:=U1 l (fun x hx=>h x (.tail _ hx))
  have hm:=aba l (fun x hx=>h x (.tail _ hx))
  show (((bS l*256+b) / 16+(bS l*256+b)) &&& (bS (l.map fun _=>15)*256+15))=bS (l.map g3)*256+g3 b
  have s5:b=b / 16*16+b % 16:=by omega
  obtain⟨f1,f2⟩:=ahc _ h2 _ h1 _ hm
  rw[← s5]at f1 f2
  have e:(bS l*256+b) / 16+(bS l*256+b)=(bS l / 16+bS l)*256+(bS l % 16*16+(b / 16+b)):=by omega
  rw[e,CY _ _ _ _ f2 (by decide),f1,ih]
def vf(x:Nat):List Nat:=[x % 256,x / 256 % 256,x / 65536 % 256,x / 16777216 % 256,x / 4294967296 % 256,x / 1099511627776 % 256,x / 281474976710656 % 256,x / 72057594037927936 % 256]
theorem Q6{x:Nat}(h:x<18446744073709551616):bS (vf x)=x:=by
 unfold vf bS bS bS bS bS bS bS bS bS
 omega
theorem Lp(x:Nat):∀b∈vf x,b<256:=by
 intro b hb
 simp only[vf,dA,wG,or_false]at hb
 omega
def tY(x:Nat):Nat:=((vf x).map vC).sum
theorem adX(x:Nat):tY x≤64:=by
 have h:=Lp x
 unfold tY vf at *
 simp only[o0,List.map_nil,JH,List.sum_nil,dA,wG,or_false,forall_eq_or_imp,forall_eq]at *
 obtain⟨h0,h1,h2,h3,h4,h5,h6,h7⟩:=h
 have:=uR _ h0
 have:=uR _ h1
 have:=uR _ h2
 have:=uR _ h3
 have:=uR _ h4
 have:=uR _ h5
 have:=uR _ h6
 have:=uR _ h7
 omega
theorem Z3{x:Nat}(hx:x<18446744073709551616)(h:tY x=0):x=0:=by
 have hb:=Lp x
 have hv:=Q6 hx
 unfold tY at h
 generalize vf x=l at *
 have hz:∀b∈l,b=0:=by
  intro b hm
  refine Z4 b (hb b hm) ?_
  have hle:∀(l:List Nat),b∈l→vC b≤(l.map vC).sum:=by
   intro l
   induction l with
   |nil=>intro h;cases h
   |cons c l ih=>
    intro h
    rw[o0,JH]
    rcases dA.1 h with rfl | h
    ·omega
    ·have:=ih h;omega
  have:=hle l hm
  omega
 have:∀(l:List Nat),(∀b∈l,b=0)→bS l=0:=by
  intro l
  induction l with
  |nil=>intro _;rfl
  |cons b l ih=>
   intro h
   show bS l*256+b=0
   rw[ih (fun x hx=>h x (.tail _ hx)),h b (.head _)]
 rw[← hv,this l hz]
theorem ah7{e0 e1 e2 e3 e4 e5 e6 e7 x3 y1 y2 y3:Nat}(h:e0≤8∧e1≤8∧e2≤8∧e3≤8∧e4≤8∧e5≤8∧e6≤8∧e7≤8)(hx:x3=bS [e0,e1,e2,e3,e4,e5,e6,e7])(h1:y1=x3+x3 / 256)(h2:y2=y1+y1 / 65536)(h3:y3=y2+y2 / 4294967296):y3 % 128=e0+e1+e2+e3+e4+e5+e6+e7∧y3<9223372036854775808∧y2<18446744073709551616∧y1<18446744073709551616:=by
 obtain⟨k0,k1,k2,k3,k4,k5,k6,k7⟩:=h
 obtain⟨T1,O3⟩:∃T,T=bS [e1,e2,e3,e4,e5,e6,e7]:=⟨_,rfl⟩
 obtain⟨T2,Fp⟩:∃T,T=bS [e2,e3,e4,e5,e6,e7]:=⟨_,rfl⟩
 obtain⟨T3,O2⟩:∃T,T=bS [e3,e4,e5,e6,e7]:=⟨_,rfl⟩
 obtain⟨T4,O1⟩:∃T,T=bS [e4,e5,e6,e7]:=⟨_,rfl⟩
 obtain⟨T5,O0⟩:∃T,T=bS [e5,e6,e7]:=⟨_,rfl⟩
 obtain⟨T6,OZ⟩:∃T,T=bS [e6,e7]:=⟨_,rfl⟩
 obtain⟨T7,OY⟩:∃T,T=bS [e7]:=⟨_,rfl⟩
 have hx:x3=T1*256+e0:=by rw[hx,O3];rfl
 have t1:T1=T2*256+e1:=by rw[O3,Fp];rfl
 have t2:T2=T3*256+e2:=by rw[Fp,O2];rfl
 have t3:T3=T4*256+e3:=by rw[O2,O1];rfl
 have t4:T4=T5*256+e4:=by rw[O1,O0];rfl
 have t5:T5=T6*256+e5:=by rw[O0,OZ];rfl
 have t6:T6=T7*256+e6:=by rw[OZ,OY];rfl
 have t7:T7=e7:=by rw[OY];exact dM _
 clear O3 Fp O2 O1 O0 OZ OY
 have d1:x3 / 256=T1:=by clear h1 h2 h3 t1 t2 t3 t4 t5 t6 t7;omega
 have u1:y1=(T2+T3)*65536+(e1*256+e2*256+e0+e1):=by rw[h1,d1];clear h1 h2 h3 d1 t3 t4 t5 t6 t7;omega
 have d2:y1 / 65536=T2+T3:=by clear h1 h2 h3 t1 t2 t3 t4 t5 t6 t7 d1 hx;omega
 have u2:y2=(T4+T5+T6+T7)*4294967296+((e0+e1+e2+e3)+(e1+e2+e3+e4)*256+(e2+e3+e4+e5)*65536+(e3+e4+e5+e6)*16777216):=by rw[h2,d2,u1];clear h1 h2 h3 d1 d2 u1 hx t7;omega
 have d3:y2 / 4294967296=T4+T5+T6+T7:=by clear h1 h2 h3 t1 t2 t3 t4 t5 t6 t7 d1 d2 hx u1;omega
 have u3:y3=(T4+T5+T6+T7)*4294967296+((e0+e1+e2+e3)+(e1+e2+e3+e4)*256+(e2+e3+e4+e5)*65536+(e3+e4+e5+e6)*16777216)+(T4+T5+T6+T7):=by rw[h3,d3,u2]
 have b7:T7≤8:=by omega
 have b6:T6≤2056:=by clear u1 u2 u3 d1 d2 d3 h1 h2 h3 hx;omega
 have b5:T5≤526344:=by clear u1 u2 u3 d1 d2 d3 h1 h2 h3 hx;omega
 have b4:T4≤134744072:=by clear u1 u2 u3 d1 d2 d3 h1 h2 h3 hx;omega
 have b3:T3≤34494482440:=by clear u1 u2 u3 d1 d2 d3 h1 h2 h3 hx;omega
 have b2:T2≤8830587504648:=by clear u1 u2 u3 d1 d2 d3 h1 h2 h3 hx;omega
 refine⟨?_,?_,?_,?_⟩
 ·clear u1 u2 d1 d2 d3 h1 h2 h3 hx b2 b3 b4 b5 b6 b7 t1 t2 t3;omega
 ·clear u1 u2 d1 d2 d3 h1 h2 h3 hx t1 t2 t3 t4 t5 t6 t7;omega
 ·clear u1 u3 d1 d2 d3 h1 h2 h3 hx t1 t2 t3 t4 t5 t6 t7;omega
 ·clear u2 u3 d1 d2 d3 h1 h2 h3 hx t1 t2 t3 t4 t5 t6 t7;omega
set_option maxRecDepth 100000
theorem AG{z:Int}(h:bK z):(z.toNat:Int)=z:=by unfold bK at h;omega
theorem vD{z:Int}(h:bK z):z.toNat<18446744073709551616:=by unfold bK at h;omega
theorem adt{n:Nat}(h:n<18446744073709551616):bK (n:Int):=by unfold bK;omega
theorem rj{a b:Nat}(ha:a<18446744073709551616)(hb:b<18446744073709551616):bits .and .u64 (a:Int) (b:Int)=((a &&& b:Nat):Int):=by
 show IntKind.u64.wrap ((BitVec.ofInt 64 (a:Int) &&& BitVec.ofInt 64 (b:Int)).toNat:Int)=_
 rw[BitVec.toNat_and,BitVec.ofInt_natCast,BitVec.ofInt_natCast,BitVec.toNat_ofNat,BitVec.toNat_ofNat,wH ha,wH hb,IntKind.wrap_u64]
 have:a &&& b≤a:=FH
 omega
theorem tp{a b:Nat}(ha:a<18446744073709551616)(hb:b<18446744073709551616):bits .or .u64 (a:Int) (b:Int)=((a ||| b:Nat):Int):=by
 show IntKind.u64.wrap ((BitVec.ofInt 64 (a:Int) ||| BitVec.ofInt 64 (b:Int)).toNat:Int)=_
 rw[BitVec.toNat_or,BitVec.ofInt_natCast,BitVec.ofInt_natCast,BitVec.toNat_ofNat,BitVec.toNat_ofNat,wH ha,wH hb,IntKind.wrap_u64]
 have:a ||| b<2 ^ 64:=JY ha hb
 have jR:(2:Nat) ^ 64=18446744073709551616:=by decide
 omega
theorem G3(a:Nat)(k:Nat)(j:Int)(hj:min j.toNat IntKind.u64.bits=k):(a:Int).fdiv (2 ^ min j.toNat IntKind.u64.bits)=((a / 2 ^ k:Nat):Int):=by
 rw[hj,Int.fdiv_eq_ediv_of_nonneg _ (Int.pow_nonneg (by decide)),Int.natCast_ediv,Int.natCast_pow];rfl
theorem L6:∀(l:List Nat),(∀b∈l,b<256)→bS l<256 ^ l.length
 | [],_=>by decide
 |b::l,h=>by
  have:=L6 l (fun x hx=>h x (.tail _ hx))
  have hb:=h b (.head _)
  show bS l*256+b<256 ^ (l.length+1)
  rw[Nat.pow_succ]
  omega
def oA(k m x:Int):Int:=IntKind.u64.wrap (bits .and .u64 (x.fdiv (2 ^ min k.toNat IntKind.u64.bits)) m+bits .and .u64 x m)
def oB(x:Int):Int:=bits .and .u64 (IntKind.u64.wrap (x.fdiv (2 ^ min (4:Int).toNat IntKind.u64.bits)+x)) 1085102592571150095
def oC(k x:Int):Int:=IntKind.u64.wrap (x+x.fdiv (2 ^ min k.toNat IntKind.u64.bits))
def oD(x:Int):Int:=bits .and .i64 (IntKind.i64.wrap x) 127
theorem yS{n:Nat}(h:n<18446744073709551616):IntKind.u64.wrap (n:Int)=n:=by rw[IntKind.wrap_u64];omega
theorem aga(n:Nat)(h:n<9223372036854775808):oD (n:Int)=((n % 128:Nat):Int):=by
 unfold oD
 rw[show IntKind.i64.wrap (n:Int)=n by rw[IntKind.wrap_i64];omega]
 show IntKind.i64.wrap ((BitVec.ofInt 64 (n:Int) &&& BitVec.ofInt 64 (127:Int)).toNat:Int)=_
 rw[BitVec.toNat_and,BitVec.ofInt_natCast,BitVec.toNat_ofNat,wH (show n<2 ^ 64 from Fz h (by decide)),show (BitVec.ofInt 64 (127:Int)).toNat=2 ^ 7-1 by decide,Pw,IntKind.wrap_i64]
 have:(2:Nat) ^ 7=128:=by decide
 omega
theorem abP{n:Nat}(h:n<18446744073709551616):oD (oC 32 (oC 16 (oC 8 (oB (oA 2 3689348814741910323 (oA 1 6148914691236517205 (n:Int)))))))=(tY n:Int):=by
 have hb:=Lp n
 have hv:=Q6 h
 obtain⟨l,hl⟩:∃l,l=vf n:=⟨_,rfl⟩
 have hlen:l.length=8:=by rw[hl];rfl
 rw[← hl]at hb hv
 have NT:(256:Nat) ^ 8=18446744073709551616:=by decide
 have lu:∀b∈l.map g1,b<256:=fun b hm=>by
  obtain⟨c,hc,rfl⟩:=dL.1 hm
  have:=aci c (hb c hc);omega
 have oY:∀b∈(l.map g1).map g2,b % 16≤4∧b / 16≤4:=fun b hm=>by
  obtain⟨c,hc,rfl⟩:=dL.1 hm
  obtain⟨d,hd,rfl⟩:=dL.1 hc
  exact ach d (hb d hd)
 have aic:∀b∈(l.map g1).map g2,b<256:=fun b hm=>by have:=oY b hm;omega
 have m1:bS (l.map fun _=>85)=6148914691236517205:=by rw[JR,hlen];rfl
 have m2:bS ((l.map g1).map fun _=>51)=3689348814741910323:=by rw[JR,cj,hlen];rfl
 have m3:bS (((l.map g1).map g2).map fun _=>15)=1085102592571150095:=by rw[JR,cj,cj,hlen];rfl
 have s1:=U3 l hb
 have s2:=U2 (l.map g1) lu
 have s3:=U1 ((l.map g1).map g2) oY
 rw[m1,hv]at s1
 rw[m2]at s2
 rw[m3]at s3
 have l1:=L6 _ lu
 have l2:=L6 _ aic
 rw[cj,hlen,NT]at l1
 rw[cj,cj,hlen,NT]at l2
 have hA:∀(x m y k:Nat) (j:Int),min j.toNat IntKind.u64.bits=k→x<18446744073709551616→m<18446744073709551616→(x / 2 ^ k &&& m)+(x &&& m)=y→y<18446744073709551616→oA j (m:Int) (x:Int)=(y:Int):=by
  intro x m y k j hj hx hm hy vZ
  unfold oA
  rw[G3 x k j hj,rj (yg (Nat.div_le_self _ _) hx) hm,rj hx hm,← uB,hy]
  exact yS vZ
 have e1:=hA n 6148914691236517205 _ 1 1 rfl h (by decide) s1 l1
 have e2:=hA _ 3689348814741910323 _ 2 2 rfl l1 (by decide) s2 l2
 have r9:bS ((l.map g1).map g2) / 16+bS ((l.map g1).map g2)<18446744073709551616:=by
  have hz:∀(q:List Nat),(∀b∈q,b % 16≤4∧b / 16≤4)→bS q*2<256 ^ q.length∨q=[]:=by
   intro q
   induction q with
   |nil=>intro _;exact .inr rfl
   |cons b q ih=>
    intro h
    have hb:=h b (.head _)
    refine .inl ?_
    show (bS q*256+b)*2<256 ^ (q.length+1)
    rw[Nat.pow_succ]
    rcases ih (fun x hx=>h x (.tail _ hx)) with h1 | rfl
    ·omega
    ·show (0*256+b)*2<256 ^ 0*256
     omega
  rcases hz _ oY with h1 | h1
  ·rw[cj,cj,hlen,NT]at h1
   omega
  ·have:=congrArg List.length h1
   rw[cj,cj,hlen]at this
   cases this
 have e3:oB (bS ((l.map g1).map g2):Int)=(bS (((l.map g1).map g2).map g3):Int):=by
  unfold oB
  rw[G3 _ 4 4 rfl,← uB,show (2:Nat) ^ 4=16 by decide,yS r9]
  have:=rj (b:=1085102592571150095) r9 (by decide)
  rw[s3]at this
  exact this
 have hC:∀(x k:Nat) (j:Int),min j.toNat IntKind.u64.bits=k→x+x / 2 ^ k<18446744073709551616→oC j (x:Int)=((x+x / 2 ^ k:Nat):Int):=by
  intro x k j hj hx
  unfold oC
  rw[G3 x k j hj,← uB]
  exact yS hx
 have ahW:((l.map g1).map g2).map g3=l.map vC:=by simp[vC,Function.comp_def]
 rw[ahW]at e3
 obtain⟨e0,f1,f2,f3,f4,f5,f6,f7,hq,ahQ,hle⟩:∃e0 e1 e2 e3 e4 e5 e6 e7,l.map vC=[e0,e1,e2,e3,e4,e5,e6,e7]∧tY n=e0+e1+e2+e3+e4+e5+e6+e7∧(e0≤8∧e1≤8∧e2≤8∧e3≤8∧e4≤8∧e5≤8∧e6≤8∧e7≤8):=by
  refine⟨_,_,_,_,_,_,_,_,by rw[hl];rfl,?_,?_⟩
  ·unfold tY vf
   simp only[o0,List.map_nil,JH,List.sum_nil]
   omega
  ·refine⟨?_,?_,?_,?_,?_,?_,?_,?_⟩ <;> exact uR _ (nT _ (by decide))
 obtain⟨X,hX⟩:∃X,X=bS (l.map vC):=⟨_,rfl⟩
 rw[← hX]at e3
 rw[hq]at hX
 obtain⟨g1',g2',g3',g4'⟩:=ah7 hle hX rfl rfl rfl
 have e4:=hC X 8 8 rfl g4'
 have e5:=hC (X+X / 256) 16 16 rfl g3'
 have e6:=hC (X+X / 256+(X+X / 256) / 65536) 32 32 rfl (Fz g2' (by decide))
 have OB:oA 1 6148914691236517205 (n:Int)=_:=e1
 rw[OB]
 have um:oA 2 3689348814741910323 (bS (l.map g1):Int)=_:=e2
 rw[um,e3,e4]
 have e5:oC 16 ((X+X / 256:Nat):Int)=_:=e5
 have e6:oC 32 ((X+X / 256+(X+X / 256) / 65536:Nat):Int)=_:=e6
 rw[show ((X+X / 2 ^ 8:Nat):Int)=((X+X / 256:Nat):Int) from rfl,e5,show ((X+X / 256+(X+X / 256) / 2 ^ 16:Nat):Int)=((X+X / 256+(X+X / 256) / 65536:Nat):Int) from rfl,e6]
 rw[aga _ g2',ahQ,← g1']
theorem ahm{x:Int}(h:bK x)(σ:Hp):ACalls Tryz.prog 306 [.int .u64 x] σ (aB (.int .i64 (tY x.toNat)) σ):=by
 refine au Tryz.func306 ?_
 have hv:=abP (vD h)
 rw[AG h]at hv
 refine aG.mk (by decide) ?_
 refine fV ?_
 refine fV ?_
 refine fV ?_
 refine fV ?_
 refine fV ?_
 exact .done ⟨aJ hv,rfl⟩
def hasB(a:List Int)(n:Nat):Bool:=(wd a (n / 64)).toNat.testBit (n % 64)
def fU(f:Int→Int→Int)(a b:List Int):List Int:=(List.range (max a.length b.length)).map fun i=>f (wd a i) (wd b i)
theorem tk(f:Int→Int→Int)(a b:List Int):(fU f a b).length=max a.length b.length:=by simp[fU]
theorem Dg(f:Int→Int→Int)(a b:List Int){i:Nat}(h:i<max a.length b.length):wd (fU f a b) i=f (wd a i) (wd b i):=by
 unfold fU wd
 rw[fm,wI h]
 rfl
theorem yL{a:List Int}{i:Nat}(h:a.length≤i):wd a i=0:=by unfold wd;rw[uF h];rfl
theorem kQ(b:List Int){i:Nat}(h:i<b.length):wd b i=b[i]:=by unfold wd;rw[bj h];rfl
theorem AW{a b:List Int}(hl:a.length=b.length)(h:∀i,i<a.length→wd a i=wd b i):a=b:=by
 refine Ct hl fun i h1 h2=>?_
 have:=h i h1
 rw[kQ a h1,kQ b h2]at this
 exact this
theorem MB{n:Nat}{f:Nat→Int}(h:∀i,i<n→bK (f i)):aU ((List.range n).map f):=fun z hz=>by
 obtain⟨i,hi,rfl⟩:=dL.1 hz
 exact h i (gb.1 hi)
abbrev mS(x y:Int):Int:=bits .or .u64 x y
abbrev jI(x y:Int):Int:=bits .andNot .u64 x y
theorem afH(x y:Int):bK (mS x y):=Di _
theorem MT(x y:Int):bK (jI x y):=Di _
theorem toNat_ofInt{z:Int}(h:bK z):(BitVec.ofInt 64 z).toNat=z.toNat:=by
 have:=vD h
 rw[BitVec.toNat_ofInt]
 unfold bK at h
 omega
theorem Uc{x y:Int}(hx:bK x)(hy:bK y)(k:Nat):(mS x y).toNat.testBit k=(x.toNat.testBit k||y.toNat.testBit k):=by
 have e:mS x y=((BitVec.ofInt 64 x ||| BitVec.ofInt 64 y).toNat:Int):=by
  show IntKind.u64.wrap _=_
  exact yS (BitVec.isLt _)
 rw[e,bO,BitVec.toNat_or,JO,toNat_ofInt hx,toNat_ofInt hy]
theorem Mu{x y:Int}(hx:bK x)(hy:bK y){k:Nat}(hk:k<64):(jI x y).toNat.testBit k=(x.toNat.testBit k&&!y.toNat.testBit k):=by
 have e:jI x y=((BitVec.ofInt 64 x &&& ~~~BitVec.ofInt 64 y).toNat:Int):=by
  show IntKind.u64.wrap _=_
  exact yS (BitVec.isLt _)
 rw[e,bO,BitVec.testBit_toNat,BitVec.getLsbD_and,BitVec.getLsbD_not,aL hk,wF,← BitVec.testBit_toNat,← BitVec.testBit_toNat,toNat_ofInt hx,toNat_ofInt hy]
def jx(T:List Int)(n:Nat):List Int:=(List.range T.length).map fun i=>(((wd T i).toNat % 2 ^ min 64 (n-64*i):Nat):Int)
theorem wS(T:List Int)(n:Nat):(jx T n).length=T.length:=by simp[jx]
theorem AZ(T:List Int)(n:Nat){i:Nat}(h:i<T.length):wd (jx T n) i=(((wd T i).toNat % 2 ^ min 64 (n-64*i):Nat):Int):=by
 unfold jx
 unfold wd
 rw[fm,wI h]
 rfl
theorem abG(T:List Int):jx T 0=List.replicate T.length 0:=by
 refine List.ext_getElem (by simp[jx]) fun i h1 h2=>?_
 rw[List.getElem_replicate,← kQ _ h1,AZ T 0 (by simpa [jx]using h1),Nat.zero_sub,Nat.min_zero,Nat.pow_zero,Nat.mod_one]
 rfl
theorem mod_succ(x k:Nat):x % 2 ^ (k+1)=if x.testBit k then x % 2 ^ k ||| 2 ^ k else x % 2 ^ k:=by
 refine Cm fun i=>?_
 cases hb:x.testBit k with
 |false=>
  rw[ag (by decide),Kb,Kb]
  by_cases h1:i<k
  ·rw[aL (show i<k+1 by omega),aL h1]
  ·by_cases h2:i=k
   ·subst h2;rw[hb];simp
   ·rw[bH (show ¬i<k+1 by omega),bH h1]
 |true=>
  rw[ah rfl,JO,Kb,Kb,Pm]
  by_cases h1:i<k
  ·rw[decide_eq_true (show i<k+1 by omega),decide_eq_true h1,decide_eq_false (show ¬k=i by omega)];simp
  ·by_cases h2:i=k
   ·subst h2;rw[hb];simp
   ·rw[bH (show ¬i<k+1 by omega),bH h1,bH (show ¬k=i by omega)];rfl
theorem abH{T:List Int}{n:Nat}(h:n<64*T.length):jx T (n+1)=if hasB T n then (jx T n).set (n / 64) (mS (wd (jx T n) (n / 64)) ((2 ^ (n % 64):Nat):Int)) else jx T n:=by
 have hi:n / 64<T.length:=by omega
 have hk:n % 64<64:=nT _ (by decide)
 have ab:∀m,(wd T (n / 64)).toNat % 2 ^ min 64 m<18446744073709551616:=fun m=>by
  have h1:(wd T (n / 64)).toNat % 2 ^ min 64 m<2 ^ min 64 m:=nT _ (Cc _)
  have h2:2 ^ min 64 m≤2 ^ 64:=uE (by decide) (Nat.min_le_left _ _)
  have h3:(2:Nat) ^ 64=18446744073709551616:=by decide
  omega
 have hp:2 ^ (n % 64)<18446744073709551616:=by
  have h2:2 ^ (n % 64)<2 ^ 64:=Nat.pow_lt_pow_right (by decide) hk
  exact h2
 have e1:min 64 (n-64*(n / 64))=n % 64:=by omega
 have e2:min 64 (n+1-64*(n / 64))=n % 64+1:=by omega
 have hm:=mod_succ (wd T (n / 64)).toNat (n % 64)
 have Vi:∀i,i≠n / 64→min 64 (n+1-64*i)=min 64 (n-64*i):=fun i aQ=>by omega
 unfold hasB
 refine AW ?_ fun i Jw=>?_
 ·rw[wS]
  split
  ·rw[cM,wS]
  ·rw[wS]
 ·rw[wS]at Jw
  rw[AZ T _ Jw]
  cases hb:(wd T (n / 64)).toNat.testBit (n % 64) with
  |true=>
   rw[hb,ah rfl]at hm
   rw[ah rfl]
   by_cases hc:i=n / 64
   ·subst hc
    have hs:wd ((jx T n).set (n / 64) (mS (wd (jx T n) (n / 64)) ((2 ^ (n % 64):Nat):Int))) (n / 64)=mS (wd (jx T n) (n / 64)) ((2 ^ (n % 64):Nat):Int):=by
     unfold wd
     rw[List.getElem?_set_self (by rw[wS];exact hi)];rfl
    have ai3:=ab (n-64*(n / 64))
    rw[hs,AZ T n hi,show mS _ _=_ from tp ai3 hp,e2,e1,hm]
   ·have hs:wd ((jx T n).set (n / 64) (mS (wd (jx T n) (n / 64)) ((2 ^ (n % 64):Nat):Int))) i=wd (jx T n) i:=by
     unfold wd
     rw[List.getElem?_set_ne (fun h=>hc h.symm)]
    rw[hs,AZ T n Jw,Vi i hc]
  |false=>
   rw[hb,ag (by decide)]at hm
   rw[ag (by decide),AZ T n Jw]
   by_cases hc:i=n / 64
   ·subst hc
    rw[e2,e1,hm]
   ·rw[Vi i hc]
def dY(w:Int):Nat:=(min (max w 0) 1024).toNat
def ej(w:Int):Nat:=(dY w+63) / 64
theorem DC(w:Int):dY w≤1024:=by unfold dY;omega
theorem AD(w:Int):ej w≤16:=by have:=DC w;unfold ej;omega
theorem Tq(n:Int):(if (1024:Int)<(if n<0 then 0 else n) then (1024:Int) else (if n<0 then 0 else n))=((dY n:Nat):Int):=by
 unfold dY
 by_cases h:n<0
 ·simp only[ah h];omega
 ·simp only[ag h];split <;> omega
def gj(w:Int):List Int:=(List.range (ej w)).map fun i=>((2 ^ min 64 (dY w-64*i)-1:Nat):Int)
theorem ri(w:Int):(gj w).length=ej w:=by simp[gj]
theorem Db(w:Int){i:Nat}(h:i<ej w):wd (gj w) i=((2 ^ min 64 (dY w-64*i)-1:Nat):Int):=by
 unfold gj wd
 rw[fm,wI h]
 rfl
theorem agL(m:Nat):2 ^ min 64 m≤18446744073709551616:=uE (by decide) (Nat.min_le_left _ _)
theorem Tg(w:Int):aU (gj w):=MB fun i _=>adt (by
 have:=agL (dY w-64*i)
 have:=Cc (min 64 (dY w-64*i))
 omega)
def fA(a:List Int)(w:Int):Bool:=decide (a.length=ej w)&&(List.range a.length).all fun i=>decide ((wd a i).toNat<2 ^ min 64 (dY w-64*i))
theorem Lm{a:List Int}{w:Int}(jR:aU a)(hl:a.length=ej w):fA a w=true↔∀n,dY w≤n→n<64*a.length→hasB a n=false:=by
 unfold fA hasB
 rw[aL hl,wF,fI]
 constructor
 ·intro h n h1 h2
  have hi:n / 64<a.length:=by omega
  have:=h (n / 64) (gb.2 hi)
  simp only[decide_eq_true_eq]at this
  refine wK (sg this (uE (by decide) ?_))
  omega
 ·intro h i hi
  have hi:=gb.1 hi
  rw[decide_eq_true_eq]
  have W7:=vD (oc jR i)
  rcases uz (dY w-64*i) 64 with hc | hc
  ·rw[Nat.min_eq_right (by omega)]
   refine Nat.lt_pow_two_of_testBit _ fun k hk=>?_
   rcases uz k 64 with ec | ec
   ·have:=h (64*i+k) (by omega) (by omega)
    rw[show (64*i+k) / 64=i by omega,show (64*i+k) % 64=k by omega]at this
    exact this
   ·refine wK (sg W7 ?_)
    exact uE (by decide:0<2) ec
  ·rw[J5 hc]
   exact W7
theorem aap{a:List Int}{w:Int}(jR:aU a)(hl:a.length=ej w):fA a w=true↔∀i,i<a.length→jI (wd a i) (wd (gj w) i)=0:=by
 unfold fA
 rw[aL hl,wF,fI]
 have hf:∀i,i<a.length→((wd a i).toNat<2 ^ min 64 (dY w-64*i)↔jI (wd a i) (wd (gj w) i)=0):=by
  intro i hi
  have ha:=oc jR i
  have hb:=oc (Tg w) i
  have hn:(wd (gj w) i).toNat=2 ^ min 64 (dY w-64*i)-1:=by rw[Db w (by omega),bO]
  constructor
  ·intro h
   have hz:(jI (wd a i) (wd (gj w) i)).toNat=0:=by
    refine Cm fun k=>?_
    rw[Nat.zero_testBit]
    rcases uz k 64 with hk | hk
    ·rw[Mu ha hb hk,hn,Ke]
     by_cases ec:k<min 64 (dY w-64*i)
     ·rw[decide_eq_true ec];simp
     ·rw[wK (sg h (uE (by decide) (by omega)))];rfl
    ·exact wK (sg (vD (MT _ _)) (uE (by decide:0<2) hk))
   have:=AG (MT (wd a i) (wd (gj w) i))
   omega
  ·intro h
   refine Nat.lt_pow_two_of_testBit _ fun k hk=>?_
   rcases uz k 64 with ec | ec
   ·have hz:=Mu ha hb ec
    rw[h,hn,Ke,bH (by omega)]at hz
    have h0:(0:Int).toNat.testBit k=false:=Nat.zero_testBit k
    rw[h0]at hz
    simpa using hz.symm
   ·exact wK (sg (vD ha) (uE (by decide:0<2) ec))
 constructor
 ·intro h i hi
  exact (hf i hi).1 (by simpa using h i (List.mem_range.2 hi))
 ·intro h i hi
  have hi:=gb.1 hi
  rw[decide_eq_true_eq]
  exact (hf i hi).2 (h i hi)
theorem UJ(a:List Int)(i:Nat)(σ:Hp):ACalls Tryz.prog 334 [.ae (.int .u64) a,.int .i64 i] σ (aB (.int .u64 (wd a i)) σ):=by
 refine au Tryz.func334 ?_
 refine ak (fun c=>?_) (fun c=>?_)
 ·have c:(a.length:Int)≤(i:Int):=c
  exact .done ⟨aJ (yL (by omega)).symm,rfl⟩
 ·have c:i<a.length:=by have c:¬(a.length:Int)≤(i:Int):=c;omega
  refine aG.mk rfl (bM.mk a[i] (by omega) (get_some c) ?_)
  exact .done ⟨aJ (kQ a c).symm,rfl⟩
theorem VS(n:Int)(σ:Hp):ACalls Tryz.prog 210 [.int .i64 n] σ (aB (.int .i64 (dY n)) σ):=by
 refine au Tryz.func210 ?_
 exact .done ⟨aJ (Tq n),rfl⟩
theorem abn(n:Int):(IntKind.i64.wrap (IntKind.i64.wrap ((dY n:Nat)+64)-1)).tdiv 64=((ej n:Nat):Int):=by
 have:=DC n
 rw[IntKind.wrap_i64,IntKind.wrap_i64]
 unfold ej
 rw[Kd (by omega)]
 omega
theorem Rf(n:Int):IntKind.i64.wrap ((ej n:Nat):Int)=((ej n:Nat):Int):=by
 have:=AD n
 rw[IntKind.wrap_i64];omega
theorem Hy(n:Int)(σ:Hp):ACalls Tryz.prog 153 [.int .i64 n] σ (aB (.int .i64 (ej n)) σ):=by
 refine au Tryz.func153 ?_
 refine az [] (VS n _) ?_
 refine aG.mk (by decide) ?_
 exact .done ⟨aJ (by rw[abn,Rf]),rfl⟩
theorem VU(g:FuncId)(f:Int→Int→Int)(hg:∀(x y:Int) (σ:Hp),ACalls Tryz.prog g [.int .u64 x,.int .u64 y] σ (aB (.int .u64 (f x y)) σ))(a b:List Int)(σ:Hp)(ha:a.length≤100000)(hb:b.length≤100000):ACalls Tryz.prog 307 [.ae (.int .u64) a,.ae (.int .u64) b,.fn (.func g) [] []] σ (aB (.ae (.int .u64) (fU f a b)) σ):=by
 refine au Tryz.func307 ?_
 obtain⟨n,hn⟩:∃n,n=max a.length b.length:=⟨_,rfl⟩
 have sG:(if (a.length:Int)<b.length then (b.length:Int) else a.length)=(n:Int):=by split <;> omega
 have oX:(fU f a b).length=n:=by rw[tk,hn]
 refine .wrap 7 _ rfl rfl ?_
 refine cc (S:=Nat×AV×Hp) (fun s=>[(0,.ae (.int .u64) a),(1,.ae (.int .u64) b),(2,.fn (.func g) [] []),(7,.via s.2.1),(13,.int .i64 n),(14,.int .i64 s.1)]) (fun s=>s.2.2++σ) (fun s=>s.1≤n∧Acc 1 s.1 s.2.1 s.2.2 (bz ((fU f a b).take s.1))) (fun s=>n-s.1) (0,.ai,[]) ⟨⟨bE _,.nil⟩,⟨rfl,rfl,rfl,rfl,aJ sG,rfl,trivial⟩,rfl⟩ ?_
 rintro⟨k,v,acc⟩ s ⟨aP,kW⟩
 have hk:k≤n:=aP
 have cH:Acc 1 k v acc (bz ((fU f a b).take k)):=kW
 clear aP kW
 refine ak (fun ab=>?_) (fun aq=>?_)
 ·have ab:k<n:=by have ab:(k:Int)<n:=ab;omega
  have he:(fU f a b)[k]'(by omega)=f (wd a k) (wd b k):=by rw[← kQ,Dg f a b (by omega)]
  refine az [] (UJ a k _) ?_
  refine az [] (UJ b k _) ?_
  refine az [] (hg _ _ _) ?_
  intro aD
  refine l8 [_] cH (.af 0 aD 0 1 _ rfl (cR rfl)) rfl (by omega) (by decide) (by decide) (fun v' bQ h'=>?_)
  refine bg (k+1,v',bQ) (by show n-(k+1)<n-k;omega) ⟨ab,?_⟩ ⟨rfl,rfl,rfl,rfl,rfl,a8 (by omega),trivial⟩ (.drop 0 1 (aN rfl))
  show Acc 1 (k+1) v' bQ (bz ((fU f a b).take (k+1)))
  rw[fw (by omega),he,bz,dr]
  exact h'
 ·have aq:k=n:=by have aq:¬(k:Int)<n:=aq;omega
  subst aq
  rw[fe (by omega)]at cH
  exact tD (s:=.int .u64) (l:=fU f a b) [] cH oX.symm (by rw[qh]) (by decide) (.done ⟨rfl,rfl⟩)
theorem aeW(x y:Int)(σ:Hp):ACalls Tryz.prog 328 [.int .u64 x,.int .u64 y] σ (aB (.int .u64 (mS x y)) σ):=by
 refine au Tryz.func328 ?_
 exact .done ⟨rfl,rfl⟩
theorem af9(x y:Int)(σ:Hp):ACalls Tryz.prog 308 [.int .u64 x,.int .u64 y] σ (aB (.int .u64 (jI x y)) σ):=by
 refine au Tryz.func308 ?_
 exact .done ⟨rfl,rfl⟩
theorem agi(a b:List Int)(σ:Hp)(ha:a.length≤100000)(hb:b.length≤100000):ACalls Tryz.prog 300 [.ae (.int .u64) a,.ae (.int .u64) b] σ (aB (.ae (.int .u64) (fU mS a b)) σ):=by
 refine au Tryz.func300 ?_
 refine az [] (VU _ _ aeW a b _ ha hb) ?_
 exact .done ⟨rfl,rfl⟩
theorem VJ(a b:List Int)(σ:Hp)(ha:a.length≤100000)(hb:b.length≤100000):ACalls Tryz.prog 284 [.ae (.int .u64) a,.ae (.int .u64) b] σ (aB (.ae (.int .u64) (fU jI a b)) σ):=by
 refine au Tryz.func284 ?_
 refine az [] (VU _ _ af9 a b _ ha hb) ?_
 exact .done ⟨rfl,rfl⟩
theorem Wm(n:Nat)(h:n≤100000000):IntKind.i64.wrap ((n:Int).tdiv 64)=((n / 64:Nat):Int):=by
 rw[Kd (by omega),IntKind.wrap_i64];omega
theorem V6(n:Nat):(n:Int).tmod 64=((n % 64:Nat):Int):=by
 rw[Cq (by omega)];omega
theorem agJ(k:Nat)(h:k<64):IntKind.u64.wrap (1*2 ^ min ((k:Nat):Int).toNat IntKind.u64.bits)=((2 ^ k:Nat):Int):=by
 have e:min ((k:Nat):Int).toNat IntKind.u64.bits=k:=by show min k 64=k;omega
 rw[e,Int.one_mul,show ((2:Int) ^ k)=((2 ^ k:Nat):Int) by rw[Int.natCast_pow];rfl]
 exact yS (sg (Nat.pow_lt_pow_right (by decide) h) (aR _))
theorem M7{l:List Int}{i:Nat}(h:i<l.length)(x:Int){z:Int}(hz:z=i):kP ⟨.int .u64,1,8,[.int .u64 0]⟩ (bz l) (0+z.toNat*1) (.int .u64 x)=some (bz (l.set i x)):=by
 subst hz
 have e:0+((i:Int)).toNat*1=i:=by omega
 rw[e]
 have h2:Nat.ble (i+1) (bz l).length=true:=Nat.ble_eq_true_of_le (by simp[bz];omega)
 show (match Nat.beq 1 1,Nat.ble (i+1) (bz l).length with | true,true=>some (fL (bz l) i [.int .u64 x]) | _,_=>none)=_
 rw[h2]
 show some ((bz l).set i (.int .u64 x))=_
 simp[bz,List.map_set]
theorem Wl{l:List Int}{i:Nat}(h:i<l.length){z:Int}(hz:z=i):eg ⟨.int .u64,1,8,[.int .u64 0]⟩ (bz l) (0+z.toNat*1)=some (.int .u64 (wd l i)):=by
 subst hz
 have e:0+((i:Int)).toNat*1=i:=by omega
 rw[e]
 show (bz l)[i]?=_
 unfold bz wd
 rw[fm,bj h];rfl
theorem aam(w:Int){n:Nat}(h:n<dY w):jx (gj w) (n+1)=(jx (gj w) n).set (n / 64) (mS (wd (jx (gj w) n) (n / 64)) ((2 ^ (n % 64):Nat):Int)):=by
 have hs:(gj w).length=ej w:=ri w
 have hl:n<64*(gj w).length:=by rw[hs];unfold ej;omega
 have hb:hasB (gj w) n=true:=by
  unfold hasB
  rw[Db w (by unfold ej;omega),bO,Ke]
  exact aL (by omega)
 rw[abH hl,ah hb]
theorem acj(w:Int):jx (gj w) (dY w)=gj w:=by
 refine AW (wS _ _) fun i hi=>?_
 rw[wS]at hi
 rw[AZ _ _ hi]
 rw[ri]at hi
 rw[Db w hi,bO,wH]
 have:=Cc (min 64 (dY w-64*i))
 omega
theorem Wv(w:Int)(σ:Hp):ACalls Tryz.prog 203 [.int .i64 w] σ (aB (.ae (.int .u64) (gj w)) σ):=by
 refine au Tryz.func203 ?_
 have eC:=AD w
 have Jy:=DC w
 refine az [] (Hy w _) ?_
 refine aY ?_
 intro q
 refine az [] (VS w _) ?_
 refine cc (S:=Nat) (fun s=>[(3,.af q 0 (ej w) 1),(9,.int .i64 (dY w)),(10,.int .i64 s)]) (fun s=>(q,bz (jx (gj w) s))::σ) (fun s=>s≤dY w) (fun s=>dY w-s) 0 ⟨bE _,⟨rfl,rfl,rfl,trivial⟩,?_⟩ ?_
 ·show (q,cJ [.int .u64 0] (((ej w:Nat):Int)).toNat)::σ=(q,bz (jx (gj w) 0))::σ
  rw[abG,ri,bO,Me]
 intro n g e8
 have hn:n≤dY w:=e8
 clear e8
 refine ak (fun ab=>?_) (fun aq=>?_)
 ·have ab:n<dY w:=by have ab:(n:Int)<dY w:=ab;omega
  have hi:n / 64<(jx (gj w) n).length:=by rw[wS,ri];unfold ej;omega
  have qV:n / 64<ej w:=by unfold ej;omega
  have hd:=Wm n (by omega)
  have hm:=V6 n
  refine .sched [] (upto [] 11 0) (by kernel_rfl) ?_
  refine fV ?_
  refine aK ?_
  refine aZ 0 rfl (Wl hi hd) ?_
  have e64:=agJ (n % 64) (by omega)
  rw[← hm]at e64
  refine fV ?_
  refine fV ?_
  refine aK ?_
  refine da 0 rfl (M7 hi _ hd) ?_
  refine bg (n+1) (by show dY w-(n+1)<dY w-n;omega) ab ⟨rfl,rfl,a8 (by omega),trivial⟩ (aN ?_)
  rw[aam w ab,← e64]
  rfl
 ·have aq:n=dY w:=by have aq:¬(n:Int)<dY w:=aq;omega
  subst aq
  rw[acj]
  exact .cX 0 q 0 (ej w) 1 _ (.int .u64) (gj w) rfl (by rw[List.drop_zero,← qh];exact List.take_of_length_le (by simp[bz,ri])) ⟨ri w,rfl,by decide⟩ .here (.done ⟨rfl,rfl⟩)
def oJ(a:List Int):Nat:=(a.map fun z=>tY z.toNat).sum
theorem aeF(a:List Int):oJ a≤64*a.length:=by
 unfold oJ
 induction a with
 |nil=>simp
 |cons x a ih=>have:=adX x.toNat;simp only[o0,JH,gq];omega
theorem aaB(a:List Int){k:Nat}(h:k<a.length):oJ (a.take (k+1))=oJ (a.take k)+tY (a[k]).toNat:=by
 unfold oJ
 rw[List.take_succ_eq_append_getElem h,List.map_append,List.sum_append];simp
theorem aaA{a:List Int}(ha:aU a):oJ a=0↔∀i,i<a.length→wd a i=0:=by
 unfold oJ
 rw[List.sum_eq_zero_iff_forall_eq_nat]
 constructor
 ·intro h i hi
  have h1:=h _ (dL.2 ⟨a[i],bX hi,rfl⟩)
  have:=Z3 (vD (ha _ (bX hi))) h1
  have hw:=AG (ha _ (bX hi))
  rw[kQ a hi,← hw,this];rfl
 ·intro h x hx
  obtain⟨z,hz,rfl⟩:=dL.1 hx
  obtain⟨i,hi,rfl⟩:=tc.1 hz
  have:=h i hi
  rw[kQ a hi]at this
  rw[this];rfl
theorem ahf{a b:Nat}(h:a+b<1000000000):IntKind.i64.wrap ((a:Int)+(b:Int))=((a+b:Nat):Int):=by rw[IntKind.wrap_i64];omega
theorem agv(a:List Int)(σ:Hp)(hl:a.length≤100000)(ha:aU a):ACalls Tryz.prog 283 [.ae (.int .u64) a] σ (aB (.int .i64 (oJ a)) σ):=by
 refine au Tryz.func283 ?_
 refine cc (S:=Nat) (fun s=>[(3,.int .i64 (oJ (a.take s))),(6,.ae (.int .u64) a),(7,.int .i64 a.length),(8,.int .i64 s)]) (fun _=>σ) (fun s=>s≤a.length) (fun s=>a.length-s) 0 ⟨bE _,⟨rfl,rfl,rfl,rfl,trivial⟩,rfl⟩ ?_
 intro k g aP
 have hk:k≤a.length:=aP
 clear aP
 refine ak (fun ab=>?_) (fun aq=>?_)
 ·have ab:k<a.length:=by have ab:(k:Int)<a.length:=ab;omega
  refine aG.mk rfl (bM.mk a[k] (by omega) (get_some ab) ?_)
  refine az [] (ahm (ha _ (bX ab)) _) ?_
  have h1:=aeF (a.take (k+1))
  have h2:=aaB a ab
  rw[qb]at h1
  refine bg (k+1) (by show a.length-(k+1)<a.length-k;omega) ab ⟨aJ (by rw[h2];exact ahf (by omega)),rfl,rfl,a8 (by omega),trivial⟩ (.refl _)
 ·have aq:k=a.length:=by have aq:¬(k:Int)<a.length:=aq;omega
  subst aq
  rw[fu]
  exact .done ⟨rfl,rfl⟩
theorem C5(a b:List Int):aU (fU jI a b):=MB fun _ _=>MT _ _
theorem aeO(a b:List Int)(σ:Hp)(ha:a.length≤10000)(hb:b.length≤10000):ACalls Tryz.prog 249 [.ae (.int .u64) a,.ae (.int .u64) b] σ (aB (.bool (decide (oJ (fU jI a b)=0))) σ):=by
 refine au Tryz.func249 ?_
 refine az [] (VJ a b _ (by omega) (by omega)) ?_
 refine az [] (agv _ _ (by rw[tk];omega) (C5 a b)) ?_
 refine ak (fun c=>?_) (fun c=>?_)
 ·have c:oJ (fU jI a b)=0:=by have c:((oJ (fU jI a b):Nat):Int)=0:=c;omega
  exact .done ⟨bY (aL c).symm,rfl⟩
 ·have c:oJ (fU jI a b)≠0:=by have c:¬((oJ (fU jI a b):Nat):Int)=0:=c;omega
  exact .done ⟨bY (bH c).symm,rfl⟩
theorem XT{a:List Int}{w:Int}(jR:aU a)(hl:a.length=ej w):decide (oJ (fU jI a (gj w))=0)=fA a w:=by
 rw[Bool.eq_iff_iff,decide_eq_true_eq,aaA (C5 _ _),aap jR hl,tk,ri,hl,Nat.max_self]
 refine⟨fun h i hi=>?_,fun h i hi=>?_⟩
 ·rw[← Dg jI a (gj w) (by rw[hl];omega)];exact h i hi
 ·rw[Dg jI a (gj w) (by rw[hl];omega)];exact h i hi
theorem DF(a:List Int)(w:Int)(σ:Hp)(jR:aU a)(ha:a.length≤10000):ACalls Tryz.prog 199 [.ae (.int .u64) a,.int .i64 w] σ (aB (.bool (fA a w)) σ):=by
 refine au Tryz.func199 ?_
 refine az [] (Hy w _) ?_
 have eC:=AD w
 refine ak (fun c=>?_) (fun c=>?_)
 ·have c:a.length=ej w:=by have c:(a.length:Int)=ej w:=c;omega
  refine az [] (Wv w _) ?_
  refine az [] (aeO a _ _ ha (by rw[ri];omega)) ?_
  exact .done ⟨bY (XT jR c),rfl⟩
 ·have c:a.length≠ej w:=by have c:¬(a.length:Int)=ej w:=c;omega
  have hf:fA a w=false:=by unfold fA;rw[bH c];rfl
  rw[hf]
  exact .done ⟨rfl,rfl⟩
theorem UK(n:Int)(σ:Hp):ACalls Tryz.prog 165 [.int .i64 n] σ (aB (.int .i64 (dY n)) σ):=by
 refine au Tryz.func165 ?_
 exact .done ⟨aJ (Tq n),rfl⟩
theorem ZP(n:Int):(IntKind.i64.wrap ((dY n:Nat)+63)).tdiv 64=((ej n:Nat):Int):=by
 have:=DC n
 rw[IntKind.wrap_i64]
 unfold ej
 rw[Kd (by omega)]
 omega
theorem VD(n:Int)(σ:Hp):ACalls Tryz.prog 115 [.int .i64 n] σ (aB (.int .i64 (ej n)) σ):=by
 refine au Tryz.func115 ?_
 refine az [] (UK n _) ?_
 refine aG.mk (by decide) ?_
 exact .done ⟨aJ (by rw[ZP,Rf]),rfl⟩
theorem aep{x:Int}(ha:bK x){k:Nat}(h:k<64){z:Int}(hz:z=k):(bits .and .u64 (x.fdiv (2 ^ min z.toNat IntKind.u64.bits)) 1=1)↔x.toNat.testBit k=true:=by
 subst hz
 have e:min ((k:Int)).toNat IntKind.u64.bits=k:=by show min k 64=k;omega
 have hw:=AG ha
 rw[← hw,G3 _ _ _ e]
 have ab:=vD ha
 rw[show (1:Int)=((1:Nat):Int) from rfl,rj (yg (Nat.div_le_self _ _) ab) (by decide)]
 rw[bO,Nat.and_one_is_mod,Nat.testBit_eq_decide_div_mod_eq,decide_eq_true_eq]
 omega
theorem ahn(a:List Int)(n:Nat)(σ:Hp)(jR:aU a)(hn:n≤1000000):ACalls Tryz.prog 178 [.ae (.int .u64) a,.int .i64 n] σ (aB (.bool (hasB a n)) σ):=by
 refine au Tryz.func178 ?_
 have hd:=Wm n (by omega)
 have hm:=V6 n
 refine fV ?_
 refine ak (fun c1=>?_) (fun c1=>?_)
 ·have c1:IntKind.i64.wrap ((↑n:Int).tdiv 64)<(↑a.length:Int):=c1
  refine fV ?_
  have hi:n / 64<a.length:=by omega
  refine aG.mk rfl (bM.mk a[n / 64] (by omega) (by rw[hd];exact get_some hi) ?_)
  have hq:=aep (ha:=jR _ (bX hi)) (k:=n % 64) (by omega) hm
  have hb:hasB a n=a[n / 64].toNat.testBit (n % 64):=by unfold hasB;rw[kQ a hi]
  refine fV ?_
  refine fV ?_
  refine ak (fun c2=>.done ⟨bY ?_,rfl⟩) (fun c2=>.done ⟨bY ?_,rfl⟩)
  ·rw[hb];exact (hq.1 c2).symm
  ·rw[hb];exact (Ce.2 fun h=>c2 (hq.2 h)).symm
 ·have c1:¬(IntKind.i64.wrap ((↑n:Int).tdiv 64)<(↑a.length:Int)):=c1
  have hb:hasB a n=false:=by unfold hasB;rw[yL (by omega)];simp
  rw[hb]
  exact .done ⟨rfl,rfl⟩
theorem MZ(a:List Int)(w:Int)(σ:Hp)(jR:aU a):ACalls Tryz.prog 128 [.ae (.int .u64) a,.int .i64 w] σ (aB (.bool (fA a w)) σ):=by
 refine au Tryz.func128 ?_
 have eC:=AD w
 have Jy:=DC w
 refine az [] (VD w _) ?_
 refine cI (fun c=>?_) (fun c=>?_)
 ·have c:a.length≠ej w:=by have c:(!decide ((a.length:Int)=(ej w:Int)))=true:=c;simp at c;omega
  have hf:fA a w=false:=by unfold fA;rw[bH c];rfl
  rw[hf]
  exact .done ⟨rfl,rfl⟩
 ·have c:a.length=ej w:=by have c:(!decide ((a.length:Int)=(ej w:Int)))=false:=c;simp at c;omega
  refine az [] (UK w _) ?_
  refine cc (S:=Nat) (fun s=>[(0,.ae (.int .u64) a),(5,.int .i64 s)]) (fun _=>σ) (fun s=>dY w≤s∧s≤64*a.length∧∀n,dY w≤n→n<s→hasB a n=false) (fun s=>64*a.length-s) (dY w) ⟨⟨aR _,?_,fun n h1 h2=>by omega⟩,⟨rfl,rfl,trivial⟩,rfl⟩ ?_
  ·rw[c];unfold ej;omega
  intro k g aP
  obtain⟨lV,ec,hk3⟩:dY w≤k∧k≤64*a.length∧∀n,dY w≤n→n<k→hasB a n=false:=aP
  refine ak (fun ab=>?_) (fun aq=>?_)
  ·have ab:k<64*a.length:=by
    have ab:(k:Int)<IntKind.i64.wrap (64*(a.length:Int)):=ab
    rw[IntKind.wrap_i64]at ab;omega
   refine dm [] (ahn a k _ jR (by omega)) (fun cA=>?_) (fun cA=>?_)
   ·have hf:fA a w=false:=Ce.2 fun h=>by
     have:=(Lm jR c).1 h k lV ab
     rw[cA]at this;exact absurd this (by decide)
    rw[hf]
    exact .done ⟨rfl,rfl⟩
   ·refine bg (k+1) (by show 64*a.length-(k+1)<64*a.length-k;omega) ⟨by omega,by omega,fun n h1 h2=>?_⟩ ⟨rfl,a8 (by omega),trivial⟩ (.refl _)
    rcases uz n k with h3 | h3
    ·exact hk3 n h1 h3
    ·rw[show n=k by omega];exact cA
  ·have aq:k=64*a.length:=by
    have aq:¬(k:Int)<IntKind.i64.wrap (64*(a.length:Int)):=aq
    rw[IntKind.wrap_i64]at aq;omega
   have hf:fA a w=true:=(Lm jR c).2 fun n h1 h2=>hk3 n h1 (by omega)
   rw[hf]
   exact .done ⟨rfl,rfl⟩
def aM(n:Int):Int:=(n+32768) % 65536-32768
theorem Aw(n:Int): -32768≤aM n:=by unfold aM;omega
theorem Ax(n:Int):aM n≤32767:=by unfold aM;omega
theorem QB(n:Int):(0≤n∧n.tmod 65536=n % 65536)∨(n<0∧n.tmod 65536 = -((-n) % 65536)):=by
 by_cases h:0≤n
 ·exact .inl ⟨h,Cq h⟩
 ·refine .inr ⟨by omega,?_⟩
  have:=Int.neg_tmod (-n) 65536
  rw[Int.neg_neg,Cq (a:= -n) (by omega)]at this
  exact this
theorem HN(n:Int)(σ:Hp):ACalls Tryz.prog 335 [.int .i64 n] σ (aB (.int .i64 (aM n)) σ):=by
 refine au Tryz.func335 ?_
 have hc:=QB n
 refine fV ?_
 refine ak (fun h1=>?_) (fun h1=>?_)
 ·have h1:32767<n.tmod 65536:=h1
  exact .done ⟨aJ (by rw[IntKind.wrap_i64];unfold aM;omega),rfl⟩
 ·have h1:¬(32767<n.tmod 65536):=h1
  refine ak (fun h2=>?_) (fun h2=>?_)
  ·have h2:n.tmod 65536 < -32768:=h2
   exact .done ⟨aJ (by rw[IntKind.wrap_i64];unfold aM;omega),rfl⟩
  ·have h2:¬(n.tmod 65536 < -32768):=h2
   exact .done ⟨aJ (by unfold aM;omega),rfl⟩
theorem U6(n:Int)(σ:Hp):ACalls Tryz.prog 261 [.int .i64 n] σ (aB (.int .i64 (aM n)) σ):=by
 refine au Tryz.func261 ?_
 have hc:=QB n
 have e:IntKind.i64.wrap (n.tmod 65536+98304)=n.tmod 65536+98304:=by rw[IntKind.wrap_i64];omega
 have e2:(n.tmod 65536+98304).tmod 65536=(n.tmod 65536+98304) % 65536:=Cq (by omega)
 refine fV ?_
 refine fV ?_
 exact .done ⟨aJ (by rw[e,e2,IntKind.wrap_i64];unfold aM;omega),rfl⟩
abbrev nC(x y:Int):List AV:=[.int .i64 x,.int .i64 y]
theorem EC(a b:Int)(σ:Hp):ACalls Tryz.prog 309 [.int .i64 a,.int .i64 b] σ (aB (.agg (nC (aM a) (aM b))) σ):=by
 refine au Tryz.func309 ?_
 intro b1
 refine az [] (HN _ _) ?_
 refine az [] (HN _ _) ?_
 refine aj 0 ?_
 refine aa 0 ?_
 exact .drop 0 1 (.done ⟨rfl,rfl⟩)
theorem ahz(a b:Int)(σ:Hp):ACalls Tryz.prog 223 [.int .i64 a,.int .i64 b] σ (aB (.agg (nC (aM a) (aM b))) σ):=by
 refine au Tryz.func223 ?_
 intro b1
 refine az [] (U6 _ _) ?_
 refine az [] (U6 _ _) ?_
 refine aj 0 ?_
 refine aa 0 ?_
 exact .drop 0 1 (.done ⟨rfl,rfl⟩)
theorem aih(x y:Int)(σ:Hp):ACalls Tryz.prog 286 [.agg (nC x y)] σ (aB (.bool (decide (x=aM x)&&decide (y=aM y))) σ):=by
 refine au Tryz.func286 ?_
 intro aD
 refine .quiet (by kernel_rfl) ?_
 refine aa 0 ?_
 refine aa 0 ?_
 refine aa 0 ?_
 refine aH [] (EC _ _ _) ?_
 refine EqAt.mk (by kernel_rfl) (by kernel_rfl) ?_
 have e:fD (sB (nC x y) (nC (aM x) (aM y)))=(decide (x=aM x)&&decide (y=aM y)):=by
  show (decide (x=aM x)&&(decide (y=aM y)&&true))=_
  rw[FA]
 rw[← e]
 refine cI (fun c=>?_) (fun c=>?_)
 ·have c:fD (sB (nC x y) (nC (aM x) (aM y)))=true:=c
  rw[c]
  exact .drop 0 1 (.done ⟨rfl,rfl⟩)
 ·have c:fD (sB (nC x y) (nC (aM x) (aM y)))=false:=c
  rw[c]
  exact .drop 0 1 (.done ⟨rfl,rfl⟩)
theorem yK(x y:Int)(σ:Hp):ACalls Tryz.prog 364 [.agg (nC x y)] σ (aB (.fR (aM x) (aM y)) σ):=by
 have h1:=Aw x
 have h2:=Ax x
 have h3:=Aw y
 have h4:=Ax y
 refine au Tryz.func364 ?_
 intro aD
 refine aa 0 ?_
 refine aa 0 ?_
 refine az [] (EC _ _ _) ?_
 refine aj 0 ?_
 refine aa 0 ?_
 refine .mk (by unfold hG;omega) ?_
 refine aa 0 ?_
 refine .mk (by unfold hG;omega) ?_
 exact .drop 0 1 (.done ⟨rfl,rfl⟩)
theorem Vh{x:Int}(h:hG x):IntKind.i64.min≤x∧x≤IntKind.i64.max:=by
 unfold hG at h
 have e1:IntKind.i64.min = -9223372036854775808:=by decide
 have e2:IntKind.i64.max=9223372036854775807:=by decide
 rw[e1,e2];omega
theorem HO(x y:Int)(σ:Hp)(hx:hG x)(hy:hG y):ACalls Tryz.prog 363 [.fR x y] σ (aB (.agg (nC (aM x) (aM y))) σ):=by
 refine au Tryz.func363 ?_
 intro aD
 refine .mk (Vh hx) ?_
 refine .mk (Vh hy) ?_
 refine az [] (EC _ _ _) ?_
 refine aj 0 ?_
 refine aa 0 ?_
 exact .drop 0 1 (.done ⟨rfl,rfl⟩)
theorem GD{a b:Int}(ha : -32768≤a∧a≤32768)(hb : -32768≤b∧b≤32768): -1073741824≤a*b∧a*b≤1073741824:=by
 have h1:a.natAbs*b.natAbs≤32768*32768:=uA (by omega) (by omega)
 rw[← JN]at h1
 omega
theorem HK(a b c d:Int):(-32768≤aM a∧aM a≤32767)∧(-32768≤aM b∧aM b≤32767)∧(-32768≤aM c∧aM c≤32767)∧-32768≤aM d∧aM d≤32767:=
 ⟨⟨Aw a,Ax a⟩,⟨Aw b,Ax b⟩,⟨Aw c,Ax c⟩,Aw d,Ax d⟩
theorem ahH(a b c d:Int):(-1073741824≤aM a*aM c∧aM a*aM c≤1073741824)∧(-1073741824≤aM b*aM d∧aM b*aM d≤1073741824)∧(-1073741824≤aM a*aM d∧aM a*aM d≤1073741824)∧-1073741824≤aM b*aM c∧aM b*aM c≤1073741824:=by
 have h:=HK a b c d
 exact⟨GD (by omega) (by omega),GD (by omega) (by omega),GD (by omega) (by omega),GD (by omega) (by omega)⟩
theorem ah6(a b c d:Int)(σ:Hp):ACalls Tryz.prog 356 [.agg (nC a b),.agg (nC c d)] σ (aB (.agg (nC (aM (aM a+aM c)) (aM (aM b+aM d)))) σ):=by
 have hF:=HK a b c d
 refine au Tryz.func356 ?_
 intro aD
 intro du
 intro rb
 refine .sched [1,3,5] (upto [1,3,5] 7 0) (by kernel_rfl) ?_
 refine aa 2 ?_
 refine aH [] (yK _ _ _) ?_
 refine aa 1 ?_
 refine aH [] (yK _ _ _) ?_
 refine .mk (by unfold hG;omega) ?_
 refine aH [] (HO _ _ _ (by unfold hG;omega) (by unfold hG;omega)) ?_
 refine aj 0 ?_
 refine aa 0 ?_
 exact .drop 0 3 (.done ⟨rfl,rfl⟩)
theorem ah4(a b c d:Int)(σ:Hp):ACalls Tryz.prog 357 [.agg (nC a b),.agg (nC c d)] σ (aB (.agg (nC (aM (aM a-aM c)) (aM (aM b-aM d)))) σ):=by
 have hF:=HK a b c d
 refine au Tryz.func357 ?_
 intro aD
 intro du
 intro rb
 refine .sched [1,3,5] (upto [1,3,5] 7 0) (by kernel_rfl) ?_
 refine aa 2 ?_
 refine aH [] (yK _ _ _) ?_
 refine aa 1 ?_
 refine aH [] (yK _ _ _) ?_
 refine .mk (by unfold hG;omega) ?_
 refine aH [] (HO _ _ _ (by unfold hG;omega) (by unfold hG;omega)) ?_
 refine aj 0 ?_
 refine aa 0 ?_
 exact .drop 0 3 (.done ⟨rfl,rfl⟩)
theorem ah5(a b c d:Int)(σ:Hp):ACalls Tryz.prog 358 [.agg (nC a b),.agg (nC c d)] σ (aB (.agg (nC (aM (aM a*aM c-aM b*aM d)) (aM (aM a*aM d+aM b*aM c)))) σ):=by
 have hF:=ahH a b c d
 refine au Tryz.func358 ?_
 intro aD
 intro du
 intro rb
 refine .sched [1,3,5] (upto [1,3,5] 7 0) (by kernel_rfl) ?_
 refine aa 2 ?_
 refine aH [] (yK _ _ _) ?_
 refine aa 1 ?_
 refine aH [] (yK _ _ _) ?_
 refine .mk (by unfold hG;omega) ?_
 refine aH [] (HO _ _ _ (by unfold hG;omega) (by unfold hG;omega)) ?_
 refine aj 0 ?_
 refine aa 0 ?_
 exact .drop 0 3 (.done ⟨rfl,rfl⟩)
theorem ag1(a b:Int)(σ:Hp):ACalls Tryz.prog 359 [.agg (nC a b)] σ (aB (.agg (nC (aM (aM a)) (aM (-aM b)))) σ):=by
 have hF:=HK a b 0 0
 refine au Tryz.func359 ?_
 intro aD
 intro du
 refine aa 1 ?_
 refine az [] (yK _ _ _) ?_
 refine az [] (HO _ _ _ (by unfold hG;omega) (by unfold hG;omega)) ?_
 refine aj 0 ?_
 refine aa 0 ?_
 exact .drop 0 2 (.done ⟨rfl,rfl⟩)
def qN(op a b c d:Int):Option (Int×Int):=
 if op=0 then some (aM a,aM b) else
 if op=1 then some (aM (aM a+aM c),aM (aM b+aM d)) else
 if op=2 then some (aM (aM a-aM c),aM (aM b-aM d)) else
 if op=3 then some (aM (aM a*aM c-aM b*aM d),aM (aM a*aM d+aM b*aM c)) else
 if op=4 then some (aM (aM a),aM (-aM b)) else none
def zI(r:Option (Int×Int))(ok err:AV):AV:=match r with | some (x,y)=>.tup [.agg (nC x y),ok] | none=>.tup [.agg (nC 0 0),err]
theorem NU(op a b c d:Int)(σ:Hp):ACalls Tryz.prog 344 [.int .i64 op,.agg (nC a b),.agg (nC c d)] σ (aB (zI (qN op a b c d) (.int .i64 0) (.int .i64 10)) σ):=by
 refine au Tryz.func344 ?_
 intro aD
 intro du
 intro rb
 intro Ku
 refine ak (fun c5=>?_) (fun c5=>?_)
 ·have c5:op=0:=c5
  refine aa 3 ?_
  refine aa 3 ?_
  refine az [] (EC _ _ _) ?_
  refine aj 0 ?_
  refine .fwd 1 ?_
  refine aa 0 ?_
  refine aj 1 ?_
  refine aa 1 ?_
  exact .drop 0 4 (.done ⟨(by simp[qN,zI, *];rfl),rfl⟩)
 ·have c5:¬(op=0):=c5
  refine ak (fun c6=>?_) (fun c6=>?_)
  ·have c6:op=1:=c6
   refine aa 3 ?_
   refine aa 2 ?_
   refine az [] (ah6 _ _ _ _ _) ?_
   refine aj 0 ?_
   refine .fwd 1 ?_
   refine aa 0 ?_
   refine aj 1 ?_
   refine aa 1 ?_
   exact .drop 0 4 (.done ⟨(by simp[qN,zI, *];rfl),rfl⟩)
  ·have c6:¬(op=1):=c6
   refine ak (fun c7=>?_) (fun c7=>?_)
   ·have c7:op=2:=c7
    refine aa 3 ?_
    refine aa 2 ?_
    refine az [] (ah4 _ _ _ _ _) ?_
    refine aj 0 ?_
    refine .fwd 1 ?_
    refine aa 0 ?_
    refine aj 1 ?_
    refine aa 1 ?_
    exact .drop 0 4 (.done ⟨(by simp[qN,zI, *];rfl),rfl⟩)
   ·have c7:¬(op=2):=c7
    refine ak (fun c8=>?_) (fun c8=>?_)
    ·have c8:op=3:=c8
     refine aa 3 ?_
     refine aa 2 ?_
     refine az [] (ah5 _ _ _ _ _) ?_
     refine aj 0 ?_
     refine .fwd 1 ?_
     refine aa 0 ?_
     refine aj 1 ?_
     refine aa 1 ?_
     exact .drop 0 4 (.done ⟨(by simp[qN,zI, *];rfl),rfl⟩)
    ·have c8:¬(op=3):=c8
     refine ak (fun c9=>?_) (fun c9=>?_)
     ·have c9:op=4:=c9
      refine aa 3 ?_
      refine az [] (ag1 _ _ _) ?_
      refine aj 0 ?_
      refine .fwd 1 ?_
      refine aa 0 ?_
      refine aj 1 ?_
      refine aa 1 ?_
      exact .drop 0 4 (.done ⟨(by simp[qN,zI, *];rfl),rfl⟩)
     ·have c9:¬(op=4):=c9
      refine aj 1 ?_
      refine aa 1 ?_
      exact .drop 0 4 (.done ⟨(by simp[qN,zI, *];rfl),rfl⟩)
def tM(x y:Int):Int:=aM x % 65536+65536*(aM y % 65536)
theorem GR(x y:Int):0≤tM x y:=by unfold tM;omega
theorem Lu(x y:Int):tM x y<4294967296:=by unfold tM;omega
theorem Wz(n:Int):IntKind.u16.wrap n=n % 65536:=by simp[IntKind.wrap,IntKind.bits,IntKind.signed]
theorem Vc(k:Nat){a b:Nat}(ha:a<2 ^ k)(hb:2 ^ k*b<18446744073709551616)(hk:2 ^ k<18446744073709551616):bits .or .u64 (a:Int) ((2 ^ k*b:Nat):Int)=((2 ^ k*b+a:Nat):Int):=by
 rw[tp (by omega) hb,Nat.or_comm,Pt ha b]
theorem adn(x y:Int):bits BinOp.or IntKind.u64 (IntKind.u64.wrap (IntKind.u16.wrap (aM x))) (IntKind.u64.wrap (IntKind.u64.wrap (IntKind.u16.wrap (aM y))*2 ^ min (Int.toNat 16) IntKind.u64.bits))=tM x y:=by
 have e:(2:Int) ^ min (Int.toNat 16) IntKind.u64.bits=65536:=by decide
 rw[e,Wz,Wz,IntKind.wrap_u64,IntKind.wrap_u64,IntKind.wrap_u64]
 unfold tM
 generalize aM x=p
 generalize aM y=q
 have h:=Vc 16 (a:=(p % 65536).toNat) (b:=(q % 65536).toNat) (by omega) (by omega) (by decide)
 have e1:(((p % 65536).toNat:Nat):Int)=p % 65536 % 18446744073709551616:=by omega
 have e2:((2 ^ 16*(q % 65536).toNat:Nat):Int)=q % 65536 % 18446744073709551616*65536 % 18446744073709551616:=by omega
 rw[e1,e2]at h
 rw[h];omega
theorem ag0(x y:Int)(σ:Hp):ACalls Tryz.prog 342 [.agg (nC x y)] σ (aB (.int .u64 (tM x y)) σ):=by
 refine au Tryz.func342 ?_
 intro aD
 refine .quiet (by kernel_rfl) ?_
 refine aa 0 ?_
 refine aH [] (HN _ _) ?_
 refine aa 0 ?_
 refine aH [] (HN _ _) ?_
 refine fV ?_
 exact .drop 0 1 (.done ⟨aJ (adn x y),rfl⟩)
def oQ(x y:Int):Int:=2+4*tM x y
theorem Ib(x y:Int)(σ:Hp):ACalls Tryz.prog 331 [.agg (nC x y)] σ (aB (.int .u64 (oQ x y)) σ):=by
 refine au Tryz.func331 ?_
 intro aD
 refine aa 0 ?_
 refine az [] (ag0 _ _ _) ?_
 refine fV ?_
 have e:bits BinOp.or IntKind.u64 2 (IntKind.u64.wrap (tM x y*2 ^ min (Int.toNat 2) IntKind.u64.bits))=oQ x y:=by
  have e:(2:Int) ^ min (Int.toNat 2) IntKind.u64.bits=4:=by decide
  have h1:=GR x y
  have h2:=Lu x y
  rw[e,IntKind.wrap_u64]
  unfold oQ
  generalize tM x y=p at h1 h2 ⊢
  have h:=Vc 2 (a:=2) (b:=p.toNat) (by decide) (by omega) (by decide)
  have e2:((2 ^ 2*p.toNat:Nat):Int)=p*4 % 18446744073709551616:=by omega
  rw[e2]at h
  exact h.trans (by omega)
 exact .drop 0 1 (.done ⟨aJ e,rfl⟩)
def pC(w:Int):Int:=if fO w then aM (w / 4 % 65536) else 0
def pD(w:Int):Int:=if fO w then aM (w / 4 / 65536) else 0
theorem acg(w:Int)(σ:Hp)(h:bK w):ACalls Tryz.prog 285 [.int .u64 w] σ (aB (if w<4294967296 then .tup [.agg (nC (aM (w % 65536)) (aM (w / 65536))),.bool true] else .tup [.agg (nC 0 0),.bool false]) σ):=by
 have e:=Dm (k:=32) (m:=32) (w:=w) (by decide)
 have e16:w.fdiv (2 ^ min (Int.toNat 16) IntKind.u64.bits)=w / 65536:=Dm (k:=16) (m:=16) (w:=w) (by decide)
 have ea:bits .and .u64 w 65535=w % 65536:=by
  show IntKind.u64.wrap ((BitVec.ofInt 64 w &&& BitVec.ofInt 64 65535).toNat:Int)=_
  have h3:(BitVec.ofInt 64 65535:BitVec 64).toNat=2 ^ 16-1:=by decide
  rw[BitVec.toNat_and,h3,Pw,BitVec.toNat_ofInt,IntKind.wrap_u64]
  omega
 have h1:=h.1
 have h2:=h.2
 refine au Tryz.func285 ?_
 intro b1
 refine fV ?_
 refine cI (fun h2=>?_) (fun h2=>?_)
 ·have h2:¬(w.fdiv (2 ^ min (Int.toNat 32) IntKind.u64.bits)=0):=by simpa using h2
  have hw:¬(w<4294967296):=fun h=>h2 (by rw[show w.fdiv (2 ^ min (Int.toNat 32) IntKind.u64.bits)=w / 2 ^ 32 from e];omega)
  refine aj 0 ?_
  refine aa 0 ?_
  rw[ag hw]
  exact .drop 0 1 (.done ⟨rfl,rfl⟩)
 ·have h2:w.fdiv (2 ^ min (Int.toNat 32) IntKind.u64.bits)=0:=by simpa using h2
  have hw:w<4294967296:=by rw[show w.fdiv (2 ^ min (Int.toNat 32) IntKind.u64.bits)=w / 2 ^ 32 from e]at h2;omega
  refine fV ?_
  refine az [] (EC _ _ _) ?_
  refine aj 0 ?_
  refine aa 0 ?_
  rw[ah hw]
  have x1:IntKind.i64.wrap (bits .and .u64 w 65535)=w % 65536:=by rw[ea,IntKind.wrap_i64];omega
  have x2:IntKind.i64.wrap (w.fdiv (2 ^ min (Int.toNat 16) IntKind.u64.bits))=w / 65536:=by rw[e16,IntKind.wrap_i64];omega
  rw[← x1,← x2]
  exact .drop 0 1 (.done ⟨rfl,rfl⟩)
theorem Bh(w:Int)(σ:Hp)(h:bK w):ACalls Tryz.prog 251 [.int .u64 w] σ (aB (.tup [.agg (nC (pC w) (pD w)),.bool (fO w)]) σ):=by
 have e:=Dm (k:=2) (m:=2) (w:=w) (by decide)
 have h0:=h.1
 have Pe:=h.2
 refine au Tryz.func251 ?_
 intro b1
 refine cI (fun h2=>?_) (fun h2=>?_)
 ·have h2:¬(bits BinOp.and IntKind.u64 w 3=2):=by simpa using h2
  rw[Ii]at h2
  have hn:fO w=false:=by simp[fO,h2]
  refine aj 0 ?_
  refine aa 0 ?_
  unfold pC pD
  rw[hn]
  exact .drop 0 1 (.done ⟨rfl,rfl⟩)
 ·have h2:bits BinOp.and IntKind.u64 w 3=2:=by simpa using h2
  rw[Ii]at h2
  refine fV ?_
  have e':w.fdiv (2 ^ min (Int.toNat 2) IntKind.u64.bits)=w / 4:=e
  refine az [] (acg _ _ ⟨by rw[e'];omega,by rw[e'];omega⟩) ?_
  unfold pC pD
  by_cases hw:w<17179869184
  ·have hn:fO w=true:=by simp[fO,h2];omega
   rw[ah (show w.fdiv (2 ^ min (Int.toNat 2) IntKind.u64.bits)<4294967296 by rw[e'];omega),hn]
   refine aj 0 ?_
   refine aa 0 ?_
   rw[e']
   exact .drop 0 1 (.done ⟨rfl,rfl⟩)
  ·have hn:fO w=false:=by simp[fO,h2];omega
   rw[ag (show ¬w.fdiv (2 ^ min (Int.toNat 2) IntKind.u64.bits)<4294967296 by rw[e'];omega),hn]
   refine aj 0 ?_
   refine aa 0 ?_
   exact .drop 0 1 (.done ⟨rfl,rfl⟩)
theorem dx{n:Int}(h : -4611686018427387904≤n∧n≤4611686018427387904):IntKind.i64.wrap n=n:=by rw[IntKind.wrap_i64];omega
end Go.Proofs.YtnikdflhefijbaaGreat
