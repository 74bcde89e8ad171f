import Derived.Test.YtnpidbjdilnhlaaGreatBn11
namespace Go.Proofs.YtnpidbjdilnhlaaGreat
open Go.RowKit
structure iE where
 A:Type
 ld:A→Int→Int×A
 st:A→Int→Int→A
 cs:A→Int→Int→Int→Bool×A
 ad:A→Int→Int→Int×A
 ln:A→Int
 free:A→Prop
abbrev aT:iE where
 A:=List Int
 ld ws a:=(cC ws a,ws)
 st ws a x:=fN ws a x
 cs ws a x y:=(lB ws a x,gw ws a x y)
 ad ws a d:=(A3 ws a d,kX ws a d)
 ln ws:=ws.length
 free _:=True
structure AMem where
 O:iE
 S:Type
 abs:S→O.A
 B:S→Hp
 t:TypeId
 p:Nat
 load : ∃ g, Meth Tryz.prog t "Load" g ∧ ∀ (s : S) (a : Int) (σ : Hp), O.free (abs s) → ACalls Tryz.prog g [.ptr p 0, .int .i64 a] (B s ++ σ) (fun r σ' => ∃ s', abs s' = (O.ld (abs s) a).2 ∧ r = .int .u64 (O.ld (abs s) a).1 ∧ σ' = B s' ++ σ)
 store : ∃ g, Meth Tryz.prog t "Store" g ∧ ∀ (s : S) (a x : Int) (σ : Hp), O.free (abs s) → ACalls Tryz.prog g [.ptr p 0, .int .i64 a, .int .u64 x] (B s ++ σ) (fun r σ' => ∃ s', abs s' = O.st (abs s) a x ∧ r = .tup [] ∧ σ' = B s' ++ σ)
 cas : ∃ g, Meth Tryz.prog t "CAS" g ∧ ∀ (s : S) (a x y : Int) (σ : Hp), O.free (abs s) → ACalls Tryz.prog g [.ptr p 0, .int .i64 a, .int .u64 x, .int .u64 y] (B s ++ σ) (fun r σ' => ∃ s', abs s' = (O.cs (abs s) a x y).2 ∧ r = .bool (O.cs (abs s) a x y).1 ∧ σ' = B s' ++ σ)
 add : ∃ g, Meth Tryz.prog t "Add" g ∧ ∀ (s : S) (a d : Int) (σ : Hp), O.free (abs s) → ACalls Tryz.prog g [.ptr p 0, .int .i64 a, .int .u64 d] (B s ++ σ) (fun r σ' => ∃ s', abs s' = (O.ad (abs s) a d).2 ∧ r = .int .u64 (O.ad (abs s) a d).1 ∧ σ' = B s' ++ σ)
 hL : AheadOk Tryz.prog t "Load"
 hS : AheadOk Tryz.prog t "Store"
 hC : AheadOk Tryz.prog t "CAS"
 hA : AheadOk Tryz.prog t "Add"
 len : ∃ g, Meth Tryz.prog t "Len" g ∧ ∀ (s : S) (σ : Hp), ACalls Tryz.prog g [.ptr p 0] (B s ++ σ) (fun r σ' => ∃ s', abs s' = abs s ∧ r = .int .i64 (O.ln (abs s)) ∧ σ' = B s' ++ σ)
abbrev AMem.v(M:AMem):AV:=.iface M.t (.ptr M.p 0)
theorem qC(fr b σ:Hp):(b++(fr++σ)).Perm (fr++(b++σ)):=by
 rw[← List.append_assoc,← List.append_assoc]
 exact List.Perm.append_right _ List.perm_append_comm
section
variable (M:AMem) (fr:Hp) {s:M.S} {σ:Hp} {K:AV→Hp→Prop}
theorem AMem.aLoad {a : Int} (hf : M.O.free (M.abs s)) (k : ∀ s', M.abs s' = (M.O.ld (M.abs s) a).2 → K (.int .u64 (M.O.ld (M.abs s) a).1) (fr ++ (M.B s' ++ σ))) : InvAt Tryz.prog M.t "Load" fun g => CallAt Tryz.prog g K [.ptr M.p 0, .int .i64 a] (fr ++ (M.B s ++ σ)) := by
 obtain⟨g,h1,h2⟩:=M.load
 refine⟨g,h1,.perm _ (qC fr (M.B s) σ) (h2 s a (fr++σ) hf) ?_⟩
 rintro r σ' ⟨s',h3,rfl,rfl⟩
 exact⟨_,(qC fr (M.B s') σ).symm,k s' h3⟩
theorem AMem.aStore {a x : Int} (hf : M.O.free (M.abs s)) (k : ∀ s', M.abs s' = M.O.st (M.abs s) a x → K (.tup []) (fr ++ (M.B s' ++ σ))) : InvAt Tryz.prog M.t "Store" fun g => CallAt Tryz.prog g K [.ptr M.p 0, .int .i64 a, .int .u64 x] (fr ++ (M.B s ++ σ)) := by
 obtain⟨g,h1,h2⟩:=M.store
 refine⟨g,h1,.perm _ (qC fr (M.B s) σ) (h2 s a x (fr++σ) hf) ?_⟩
 rintro r σ' ⟨s',h3,rfl,rfl⟩
 exact⟨_,(qC fr (M.B s') σ).symm,k s' h3⟩
theorem AMem.aCas {a x y : Int} (hf : M.O.free (M.abs s)) (k : ∀ s', M.abs s' = (M.O.cs (M.abs s) a x y).2 → K (.bool (M.O.cs (M.abs s) a x y).1) (fr ++ (M.B s' ++ σ))) : InvAt Tryz.prog M.t "CAS" fun g => CallAt Tryz.prog g K [.ptr M.p 0, .int .i64 a, .int .u64 x, .int .u64 y] (fr ++ (M.B s ++ σ)) := by
 obtain⟨g,h1,h2⟩:=M.cas
 refine⟨g,h1,.perm _ (qC fr (M.B s) σ) (h2 s a x y (fr++σ) hf) ?_⟩
 rintro r σ' ⟨s',h3,rfl,rfl⟩
 exact⟨_,(qC fr (M.B s') σ).symm,k s' h3⟩
theorem AMem.aCasB {a x y : Int} (hf : M.O.free (M.abs s)) (k1 : ∀ s', M.abs s' = (M.O.cs (M.abs s) a x y).2 → (M.O.cs (M.abs s) a x y).1 = true → K (.bool true) (fr ++ (M.B s' ++ σ))) (k2 : ∀ s', M.abs s' = (M.O.cs (M.abs s) a x y).2 → (M.O.cs (M.abs s) a x y).1 = false → K (.bool false) (fr ++ (M.B s' ++ σ))) : InvAt Tryz.prog M.t "CAS" fun g => CallAt Tryz.prog g K [.ptr M.p 0, .int .i64 a, .int .u64 x, .int .u64 y] (fr ++ (M.B s ++ σ)) :=
 M.aCas fr hf fun s' h=>by
  cases hb:(M.O.cs (M.abs s) a x y).1 with
  | true=>exact k1 s' h hb
  | false=>exact k2 s' h hb
theorem AMem.aAdd {a d : Int} (hf : M.O.free (M.abs s)) (k : ∀ s', M.abs s' = (M.O.ad (M.abs s) a d).2 → K (.int .u64 (M.O.ad (M.abs s) a d).1) (fr ++ (M.B s' ++ σ))) : InvAt Tryz.prog M.t "Add" fun g => CallAt Tryz.prog g K [.ptr M.p 0, .int .i64 a, .int .u64 d] (fr ++ (M.B s ++ σ)) := by
 obtain⟨g,h1,h2⟩:=M.add
 refine⟨g,h1,.perm _ (qC fr (M.B s) σ) (h2 s a d (fr++σ) hf) ?_⟩
 rintro r σ' ⟨s',h3,rfl,rfl⟩
 exact⟨_,(qC fr (M.B s') σ).symm,k s' h3⟩
end
def sd(p q:Nat):AMem where
 O:=aT
 S:=List Int
 abs ws:=ws
 B ws:=[(p,rq q ws.length),(q,aU ws)]
 t:=34
 p:=p
 load:=⟨_,mLoad_,fun ws a σ _=>(Go.Proofs.YtnpidbjdilnhlaaGreat.aLoad p q ws a σ).mono fun _ _ h=>⟨ws,rfl,h.1,h.2⟩⟩
 store:=⟨_,mStore_,fun ws a x σ _=>(Go.Proofs.YtnpidbjdilnhlaaGreat.aStore p q ws a x σ).mono fun _ _ h=>⟨_,rfl,h.1,h.2⟩⟩
 cas:=⟨_,mCAS_,fun ws a x y σ _=>(Go.Proofs.YtnpidbjdilnhlaaGreat.aCas p q ws a x y σ).mono fun _ _ h=>⟨_,rfl,h.1,h.2⟩⟩
 add:=⟨_,mAdd_,fun ws a d σ _=>(Go.Proofs.YtnpidbjdilnhlaaGreat.aAdd p q ws a d σ).mono fun _ _ h=>⟨_,rfl,h.1,h.2⟩⟩
 hL:=hLoad_
 hS:=hStore_
 hC:=hCAS_
 hA:=hAdd_
 len:=⟨_,mLen_,fun ws σ=>(Go.Proofs.YtnpidbjdilnhlaaGreat.Q6 p q ws σ).mono fun _ _ h=>⟨ws,rfl,h.1,h.2⟩⟩
set_option maxRecDepth 100000
abbrev wr(n:Int):Int:=IntKind.i64.wrap n
structure Tk where
 f:Int
 c:Int
 v:Int
 new:Bool
 ended:Bool
 im:Bool
def wD(t:Tk):List AV:=[.int .i64 t.f,.int .i64 t.c,.int .i64 t.v,.bool t.new,.bool t.ended,.bool t.im]
def jr(O:iE)(t:Tk)(a:O.A):Tk×O.A×Bool:=
 if t.ended then (t,a,true)
 else if t.im then ({ t with ended:=true },(O.ad a t.c 1).2,true)
 else if 0≤t.v then
  (if (O.cs a (wr (t.f+t.v)) 0 1).1 then ({ t with im:=true,new:=true },(O.cs a (wr (t.f+t.v)) 0 1).2,false) else ({ t with im:=true,new:=false,ended:=true },(O.cs a (wr (t.f+t.v)) 0 1).2,true))
 else ({ t with im:=true,new:=false,ended:=true },a,true)
def nS(M:AMem)(σ:Hp){X:Type}(B:X→List AV)(r:Nat)(res:X×M.O.A×Bool):AV→Hp→Prop:=
 fun x σ'=>∃m',M.abs m'=res.2.1∧x=.bool res.2.2∧σ'=(r,B res.1)::(M.B m'++σ)
theorem iz{M:AMem}{σ:Hp}{X:Type}{B:X→List AV}{r:Nat}{res:X×M.O.A×Bool}{x:X}{a:M.O.A}{b:Bool}{m':M.S}(h:res=(x,a,b))(hm:M.abs m'=a):nS M σ B r res (.bool b) ((r,B x)::(M.B m'++σ)):=by
 subst h
 exact⟨m',hm,rfl,rfl⟩
theorem Eh(M:AMem)(r:Nat)(t:Tk)(m:M.S)(d:Int)(σ:Hp)(hf:M.O.free (M.abs m)):ACalls Tryz.prog 375 [.ptr r 0,M.v,.int .i64 d] ((r,wD t)::(M.B m++σ)) (nS M σ wD r (jr M.O t (M.abs m))):=by
 refine okF Tryz.func375 (by kernel_rfl) ?_
 refine dJ.iZ 0 _ _ rfl rfl (fun h0 =>?_) (fun h0 =>?_)
 ·exact .done (iz (x:=t) (by simp[jr,h0]) rfl)
 refine ax [] (cy _ _ _) ?_
 refine dJ.iZ 0 _ _ rfl rfl (fun h1 =>?_) (fun h1 =>?_)
 ·refine .each (by kernel_rfl) ?_
  refine aa 0 ?_
  refine dS.mk M.hA ?_
  refine M.aAdd [_] hf fun m' hm =>?_
  refine .fwd 1 ?_
  refine ai 0 ?_
  exact .done (iz (x:= { t with ended:=true }) (by simp[jr,h0,h1]) hm)
 refine ai 0 ?_
 refine .each (by kernel_rfl) ?_
 by_cases h2:0≤t.v
 ·repeat' first
   | refine And.intro ?_ ?_
   | refine aa 0 ?_
   | refine ao (fun _ =>?_) (fun h=>absurd h2 h)
   | refine dS.mk M.hC ?_
  all_goals
   refine M.aCasB [_] hf (fun m' hm hb =>?_) (fun m' hm hb =>?_)
   ·refine ai 0 ?_
    refine aa 0 ?_
    exact .done (iz (x:= { t with im:=true,new:=true }) (by simp[jr,h0,h1,h2,hb]) hm)
   ·refine ai 0 ?_
    refine aa 0 ?_
    refine ai 0 ?_
    exact .done (iz (x:= { t with im:=true,new:=false,ended:=true }) (by simp[jr,h0,h1,h2,hb]) hm)
 ·repeat' first
   | refine And.intro ?_ ?_
   | refine aa 0 ?_
   | refine ao (fun h=>absurd h h2) (fun _ =>?_)
   | refine ai 0 ?_
  all_goals
   exact .done (iz (x:= { t with im:=true,new:=false,ended:=true }) (by simp[jr,h0,h1,h2]) rfl)
structure Ck where
 f:Int
 c:Int
 v:Int
 ended:Bool
def B5(t:Ck):List AV:=[.int .i64 t.f,.int .i64 t.c,.int .i64 t.v,.bool t.ended]
def pK(O:iE)(t:Ck)(a:O.A):Ck×O.A×Bool:=
 if t.ended then (t,a,true) else ({ t with ended:=true },if 0≤t.v then O.st a (wr (t.f+t.v)) 0 else a,true)
theorem PY(M:AMem)(r:Nat)(t:Ck)(m:M.S)(d:Int)(σ:Hp)(hf:M.O.free (M.abs m)):ACalls Tryz.prog 372 [.ptr r 0,M.v,.int .i64 d] ((r,B5 t)::(M.B m++σ)) (nS M σ B5 r (pK M.O t (M.abs m))):=by
 refine okF Tryz.func372 (by kernel_rfl) ?_
 refine dJ.iZ 0 _ _ rfl rfl (fun h0 =>?_) (fun h0 =>?_)
 ·exact .done (iz (x:=t) (by simp[pK,h0]) rfl)
 refine ai 0 ?_
 refine aa 0 ?_
 refine ao (fun h2 =>?_) (fun h2 =>?_)
 ·have h2:0≤t.v:=h2
  refine .each (by kernel_rfl) ?_
  repeat' first
   | refine And.intro ?_ ?_
   | refine aa 0 ?_
   | refine ax [] (cy _ _ _) ?_
   | refine dS.mk M.hS ?_
  all_goals
   refine M.aStore [_] hf fun m' hm =>?_
   exact .done (iz (x:= { t with ended:=true }) (by simp[pK,h0,h2]) hm)
 ·have h2:¬0≤t.v:=h2
  exact .done (iz (x:= { t with ended:=true }) (by simp[pK,h0,h2]) rfl)
structure Rk where
 f:Int
 c:Int
 left:Int
 ended:Bool
def Br(t:Rk):List AV:=[.int .i64 t.f,.int .i64 t.c,.int .i64 t.left,.bool t.ended]
def qM(O:iE)(t:Rk)(a:O.A):Rk×O.A×Bool:=
 if t.ended then (t,a,true) else ({ t with ended:=true,left:=wr (O.ad a t.c 18446744073709551615).1 },(O.ad a t.c 18446744073709551615).2,true)
theorem OZ(M:AMem)(r:Nat)(t:Rk)(m:M.S)(d:Int)(σ:Hp)(hf:M.O.free (M.abs m)):ACalls Tryz.prog 377 [.ptr r 0,M.v,.int .i64 d] ((r,Br t)::(M.B m++σ)) (nS M σ Br r (qM M.O t (M.abs m))):=by
 refine okF Tryz.func377 (by kernel_rfl) ?_
 refine dJ.iZ 0 _ _ rfl rfl (fun h0 =>?_) (fun h0 =>?_)
 ·exact .done (iz (x:=t) (by simp[qM,h0]) rfl)
 refine ai 0 ?_
 refine .each (by kernel_rfl) ?_
 repeat' first
  | refine And.intro ?_ ?_
  | refine aa 0 ?_
  | refine ax [] (cy _ _ _) ?_
  | refine dS.mk M.hA ?_
 all_goals
  refine M.aAdd [_] hf fun m' hm =>?_
  refine ai 0 ?_
  exact .done (iz (x:= { t with ended:=true,left:=wr (M.O.ad (M.abs m) t.c 18446744073709551615).1 }) (by simp[qM,h0]) hm)
structure Qk where
 f:Int
 c:Int
 is:Bool
 ended:Bool
def Bt(t:Qk):List AV:=[.int .i64 t.f,.int .i64 t.c,.bool t.is,.bool t.ended]
def pJ(O:iE)(t:Qk)(a:O.A):Qk×O.A×Bool:=
 if t.ended then (t,a,true) else ({ t with ended:=true,is:=decide ((O.ld a t.c).1=0) },(O.ld a t.c).2,true)
theorem DT(M:AMem)(r:Nat)(t:Qk)(m:M.S)(d:Int)(σ:Hp)(hf:M.O.free (M.abs m)):ACalls Tryz.prog 371 [.ptr r 0,M.v,.int .i64 d] ((r,Bt t)::(M.B m++σ)) (nS M σ Bt r (pJ M.O t (M.abs m))):=by
 refine okF Tryz.func371 (by kernel_rfl) ?_
 refine dJ.iZ 0 _ _ rfl rfl (fun h0 =>?_) (fun h0 =>?_)
 ·exact .done (iz (x:=t) (by simp[pJ,h0]) rfl)
 refine ai 0 ?_
 refine .each (by kernel_rfl) ?_
 repeat' first
  | refine And.intro ?_ ?_
  | refine aa 0 ?_
  | refine ax [] (cy _ _ _) ?_
  | refine dS.mk M.hL ?_
 all_goals
  refine M.aLoad [_] hf fun m' hm =>?_
  refine ao (fun h2 =>?_) (fun h2 =>?_)
  ·have h2:(M.O.ld (M.abs m) t.c).1=0:=h2
   refine ai 0 ?_
   exact .done (iz (x:= { t with ended:=true,is:=true }) (by simp[pJ,h0,h2]) hm)
  ·have h2:¬(M.O.ld (M.abs m) t.c).1=0:=h2
   refine ai 0 ?_
   exact .done (iz (x:= { t with ended:=true,is:=false }) (by simp[pJ,h0,h2]) hm)
theorem Zp(M:AMem)(f c:Int)(m:M.S)(σ:Hp)(hf:M.O.free (M.abs m)):ACalls Tryz.prog 69 [.agg [.int .i64 f,.int .i64 c],M.v] (M.B m++σ) (fun x σ'=>∃m',M.abs m'=(M.O.ld (M.abs m) c).2∧x=.int .i64 (wr (M.O.ld (M.abs m) c).1)∧σ'=M.B m'++σ):=by
 refine okF Tryz.func69 (by kernel_rfl) ?_
 intro b
 refine .each (by kernel_rfl) ?_
 repeat' first
  | refine And.intro ?_ ?_
  | refine aa 0 ?_
  | refine ax [] (cy _ _ _) ?_
 all_goals
  refine M.aLoad [_] hf fun m' hm =>?_
  exact .drop 0 1 (.done ⟨m',hm,rfl,rfl⟩)
theorem aai(M:AMem)(f c v:Int)(m:M.S)(σ:Hp)(hf:M.O.free (M.abs m)):ACalls Tryz.prog 72 [.agg [.int .i64 f,.int .i64 c],M.v,.int .i64 v] (M.B m++σ) (fun x σ'=>∃m',M.abs m'=(if 0≤v then (M.O.ld (M.abs m) (wr (f+v))).2 else M.abs m)∧x=.bool (decide (0≤v) && decide ((M.O.ld (M.abs m) (wr (f+v))).1=1))∧σ'=M.B m'++σ):=by
 refine okF Tryz.func72 (by kernel_rfl) ?_
 intro b
 refine .each (by kernel_rfl) ?_
 by_cases h:0≤v
 ·repeat' first
   | refine And.intro ?_ ?_
   | refine ao (fun _ =>?_) (fun h2=>absurd h h2)
   | refine aa 0 ?_
   | refine ax [] (cy _ _ _) ?_
  all_goals
   refine M.aLoad [_] hf fun m' hm =>?_
   refine ao (fun h2 =>?_) (fun h2 =>?_)
   ·have h2:(M.O.ld (M.abs m) (wr (f+v))).1=1:=h2
    exact .drop 0 1 (.done ⟨m',by rw[if_pos h];exact hm,cM (by simp[h,h2]),rfl⟩)
   ·have h2:¬(M.O.ld (M.abs m) (wr (f+v))).1=1:=h2
    exact .drop 0 1 (.done ⟨m',by rw[if_pos h];exact hm,cM (by simp[h2]),rfl⟩)
 ·repeat' first
   | refine And.intro ?_ ?_
   | refine ao (fun h2=>absurd h2 h) (fun _ =>?_)
  all_goals
   exact .drop 0 1 (.done ⟨m,by rw[if_neg h],cM (by simp[h]),rfl⟩)
theorem Hd(f c:Int)(p q:Nat)(ws:List Int)(σ:Hp):ACalls Tryz.prog 69 [.agg [.int .i64 f,.int .i64 c],iY p] (aX p q ws σ) (az (.int .i64 (wr (cC ws c))) (aX p q ws σ)):=
 (Zp (sd p q) f c ws σ trivial).mono fun _ _ ⟨m',h1,h2,h3⟩=>by
  have h1:m'=ws:=h1
  subst h1
  exact⟨h2,h3⟩
theorem Y8(f c v:Int)(p q:Nat)(ws:List Int)(σ:Hp):ACalls Tryz.prog 72 [.agg [.int .i64 f,.int .i64 c],iY p,.int .i64 v] (aX p q ws σ) (az (.bool (decide (0≤v) && decide (cC ws (wr (f+v))=1))) (aX p q ws σ)):=
 (aai (sd p q) f c v ws σ trivial).mono fun _ _ ⟨m',h1,h2,h3⟩=>by
  have h1:m'=ws:=by
   refine h1.trans ?_
   show (if 0≤v then ws else ws)=ws
   split <;> rfl
  subst h1
  exact⟨h2,h3⟩
set_option maxRecDepth 100000
theorem LG{α:Type}{f:α→Hp}{l:List α}{j:Nat}(h:j<l.length):(l.flatMap f).Perm (f l[j]++(l.eraseIdx j).flatMap f):=by
 induction l generalizing j with
 | nil=>simp at h
 | cons x l ih =>
  cases j with
  | zero=>exact List.Perm.refl _
  | succ j =>
   rw[List.flatMap_cons]
   have:=ih (j:=j) (by simpa using h)
   refine (List.Perm.append_left _ this).trans ?_
   simp only[List.getElem_cons_succ,List.eraseIdx_cons_succ,List.flatMap_cons,← List.append_assoc]
   exact List.Perm.append_right _ List.perm_append_comm
theorem US{α:Type}{f:α→Hp}{l:List α}{j:Nat}(h:j<l.length)(y:α):((l.set j y).flatMap f).Perm (f y++(l.eraseIdx j).flatMap f):=by
 have:=LG (f:=f) (l:=l.set j y) (j:=j) (by simpa using h)
 rw[List.getElem_set_self,List.eraseIdx_set_eq]at this
 exact this
set_option maxRecDepth 100000
set_option maxHeartbeats 4000000
theorem Gz{β:Type}(f:Nat→β)(c:β→AV)(i:Nat):((List.range (i+1)).map f).map c=((List.range i).map f).map c++[c (f i)]:=by
 rw[List.range_succ,List.map_append,List.map_append];rfl
theorem Ji{e k:Nat}{v:AV}{acc:Hp}{cs cs':List AV}(h:cs=cs')(ha:Acc e k v acc cs'):Acc e k v acc cs:=h▸ha
theorem aaB(g:FuncId)(cap:List AV)(St:List Nat→Hp→Prop)(S0 σ:Hp)(h0:St [] S0)(n:Nat)(hn:n≤100000)(sU:∀(L:List Nat) (S τ:Hp),L.length<n→St L S→ACalls Tryz.prog g (.int .i64 L.length::cap) (S++τ) (fun r σ'=>∃w S',r=.ptr w 0∧σ'=S'++τ∧St (L++[w]) S')):ACalls Tryz.prog 124 [.int .i64 n,.fn (.func g) [] cap] (S0++σ) (fun r σ'=>∃L S' acc,L.length=n∧St L S'∧Acc 1 n r acc (L.map fun w=>.ptr w 0)∧σ'=acc++(S'++σ)):=by
 refine okF Tryz.func124 (by kernel_rfl) ?_
 refine .wrap 5 .af rfl rfl ?_
 refine bO (S:=List Nat×AV×Hp×{S:Hp // True}) (fun t=>[(1,.fn (.func g) [] cap),(5,.via t.2.1),(7,.int .i64 n),(8,.int .i64 t.1.length)]) (fun t=>t.2.2.1++(t.2.2.2.1++σ)) (fun t=>t.1.length≤n∧Acc 1 t.1.length t.2.1 t.2.2.1 (t.1.map (fun w=>AV.ptr w 0))∧St t.1 t.2.2.2.1) (fun t=>n-t.1.length) ([],.af,[],⟨S0,trivial⟩) ⟨⟨Nat.zero_le _,.nil,h0⟩,⟨rfl,rfl,rfl,rfl,trivial⟩,rfl⟩ ?_
 rintro⟨L,v,acc,⟨S,_⟩⟩ g2 ⟨dY,h0,BZ⟩
 have hi:L.length≤n:=dY
 have h:Acc 1 L.length v acc (L.map (fun w=>AV.ptr w 0)):=h0
 have hS:St L S:=BZ
 clear dY h0 BZ
 refine ao (p:=(L.length:Int)<(n:Int)) (fun ab =>?_) (fun au =>?_)
 rotate_left
 ·have au:L.length=n:=by omega
  exact .done ⟨L,S,acc,au,hS,au▸h,rfl⟩
 have ab:L.length<n:=by omega
 refine .perm (σ2:=S++(acc++σ)) _ (dO acc S σ) (sU L S (acc++σ) ab hS) ?_
 rintro _ _ ⟨w,S',rfl,rfl,yR⟩
 refine⟨_,(dO acc S' σ).symm,?_⟩
 intro b1
 refine kr [_] h (.ae 0 b1 0 1 _ rfl (Nat.le_of_ble_eq_true rfl)) rfl (by omega) (by decide) (by decide) (fun v' bh h' =>?_)
 refine bg (L++[w],v',bh,⟨S',trivial⟩) (by show n-(L++[w]).length<n-L.length;rw[List.length_append];simp only[List.length_singleton];omega) ⟨by rw[List.length_append];exact ab,?_,yR⟩ ⟨rfl,rfl,rfl,?_,trivial⟩ (.drop 0 1 (.refl _))
 ·show Acc 1 (L++[w]).length v' bh ((L++[w]).map (fun w=>AV.ptr w 0))
  rw[List.length_append,List.map_append]
  exact h'
 ·rw[List.length_append]
  exact a8 (show L.length<1000000000 by omega)
theorem PV(g:FuncId)(cap:List AV)(St:List Nat→Hp→Prop)(S0 σ:Hp)(h0:St [] S0)(n:Nat)(hn:n≤100000)(sU:∀(L:List Nat) (S τ:Hp),L.length<n→St L S→ACalls Tryz.prog g (.int .i64 L.length::cap) (S++τ) (fun r σ'=>∃w S',r=.iface 173 (.ptr w 0)∧σ'=S'++τ∧St (L++[w]) S')):ACalls Tryz.prog 128 [.int .i64 n,.fn (.func g) [] cap] (S0++σ) (fun r σ'=>∃L S' acc,L.length=n∧St L S'∧Acc 1 n r acc (L.map fun w=>.iface 173 (.ptr w 0))∧σ'=acc++(S'++σ)):=by
 refine okF Tryz.func128 (by kernel_rfl) ?_
 refine .wrap 5 .af rfl rfl ?_
 refine bO (S:=List Nat×AV×Hp×{S:Hp // True}) (fun t=>[(1,.fn (.func g) [] cap),(5,.via t.2.1),(7,.int .i64 n),(8,.int .i64 t.1.length)]) (fun t=>t.2.2.1++(t.2.2.2.1++σ)) (fun t=>t.1.length≤n∧Acc 1 t.1.length t.2.1 t.2.2.1 (t.1.map (fun w=>AV.iface 173 (.ptr w 0)))∧St t.1 t.2.2.2.1) (fun t=>n-t.1.length) ([],.af,[],⟨S0,trivial⟩) ⟨⟨Nat.zero_le _,.nil,h0⟩,⟨rfl,rfl,rfl,rfl,trivial⟩,rfl⟩ ?_
 rintro⟨L,v,acc,⟨S,_⟩⟩ g2 ⟨dY,h0,BZ⟩
 have hi:L.length≤n:=dY
 have h:Acc 1 L.length v acc (L.map (fun w=>AV.iface 173 (.ptr w 0))):=h0
 have hS:St L S:=BZ
 clear dY h0 BZ
 refine ao (p:=(L.length:Int)<(n:Int)) (fun ab =>?_) (fun au =>?_)
 rotate_left
 ·have au:L.length=n:=by omega
  exact .done ⟨L,S,acc,au,hS,au▸h,rfl⟩
 have ab:L.length<n:=by omega
 refine .perm (σ2:=S++(acc++σ)) _ (dO acc S σ) (sU L S (acc++σ) ab hS) ?_
 rintro _ _ ⟨w,S',rfl,rfl,yR⟩
 refine⟨_,(dO acc S' σ).symm,?_⟩
 intro b1
 refine kr [_] h (.ae 0 b1 0 1 _ rfl (Nat.le_of_ble_eq_true rfl)) rfl (by omega) (by decide) (by decide) (fun v' bh h' =>?_)
 refine bg (L++[w],v',bh,⟨S',trivial⟩) (by show n-(L++[w]).length<n-L.length;rw[List.length_append];simp only[List.length_singleton];omega) ⟨by rw[List.length_append];exact ab,?_,yR⟩ ⟨rfl,rfl,rfl,?_,trivial⟩ (.drop 0 1 (.refl _))
 ·show Acc 1 (L++[w]).length v' bh ((L++[w]).map (fun w=>AV.iface 173 (.ptr w 0)))
  rw[List.length_append,List.map_append]
  exact h'
 ·rw[List.length_append]
  exact a8 (show L.length<1000000000 by omega)
theorem PW(g:FuncId)(cap:List AV)(S σ:Hp)(f:Nat→Int)(n:Nat)(hn:n≤100000)(sU:∀i:Nat,i<n→∀τ,ACalls Tryz.prog g (.int .i64 i::cap) (S++τ) (az (.int .i64 (f i)) (S++τ))):ACalls Tryz.prog 73 [.int .i64 n,.fn (.func g) [] cap] (S++σ) (az (.ah (.int .i64) ((List.range n).map f)) (S++σ)):=by
 refine okF Tryz.func73 (by kernel_rfl) ?_
 refine .wrap 5 .af rfl rfl ?_
 refine bO (S:=Nat×AV×Hp) (fun t=>[(1,.fn (.func g) [] cap),(5,.via t.2.1),(7,.int .i64 n),(8,.int .i64 t.1)]) (fun t=>t.2.2++(S++σ)) (fun t=>t.1≤n∧Acc 1 t.1 t.2.1 t.2.2 (((List.range t.1).map f).map (AV.int .i64))) (fun t=>n-t.1) (0,.af,[]) ⟨⟨Nat.zero_le _,.nil⟩,⟨rfl,rfl,rfl,rfl,trivial⟩,rfl⟩ ?_
 rintro⟨i,v,acc⟩ g ⟨dY,h0⟩
 have hi:i≤n:=dY
 have h:Acc 1 i v acc (((List.range i).map f).map (AV.int .i64)):=h0
 clear dY h0
 refine ao (p:=(i:Int)<(n:Int)) (fun ab =>?_) (fun au =>?_)
 rotate_left
 ·have au:i=n:=by omega
  subst au
  have hlen:((List.range i).map f).length=i:=by rw[List.length_map,List.length_range]
  exact qG [] (s:=(.int .i64)) h hlen.symm (List.map_eq_flatMap ..) Nat.one_pos (.done ⟨rfl,rfl⟩)
 have ab:i<n:=by omega
 refine .perm (σ2:=S++(acc++σ)) _ (dO acc S σ) (sU i ab (acc++σ)) ?_
 rintro _ _ ⟨rfl,rfl⟩
 refine⟨_,(dO acc S σ).symm,?_⟩
 intro b1
 refine kr [_] h (.ae 0 b1 0 1 _ rfl (Nat.le_of_ble_eq_true rfl)) rfl (by omega) (by decide) (by decide) (fun v' bh h' =>?_)
 refine bg (i+1,v',bh) (by show n-(i+1)<n-i;omega) ⟨ab,?_⟩ ⟨rfl,rfl,rfl,a8 (by omega),trivial⟩ (.drop 0 1 (.refl _))
 show Acc 1 (i+1) v' bh (((List.range (i+1)).map f).map (AV.int .i64))
 exact Ji (Gz f (AV.int .i64) i) h'
theorem aaD(g:FuncId)(cap:List AV)(S σ:Hp)(f:Nat→Bool)(n:Nat)(hn:n≤100000)(sU:∀i:Nat,i<n→∀τ,ACalls Tryz.prog g (.int .i64 i::cap) (S++τ) (az (.bool (f i)) (S++τ))):ACalls Tryz.prog 70 [.int .i64 n,.fn (.func g) [] cap] (S++σ) (az (.ah .bool ((List.range n).map f)) (S++σ)):=by
 refine okF Tryz.func70 (by kernel_rfl) ?_
 refine .wrap 5 .af rfl rfl ?_
 refine bO (S:=Nat×AV×Hp) (fun t=>[(1,.fn (.func g) [] cap),(5,.via t.2.1),(7,.int .i64 n),(8,.int .i64 t.1)]) (fun t=>t.2.2++(S++σ)) (fun t=>t.1≤n∧Acc 1 t.1 t.2.1 t.2.2 (((List.range t.1).map f).map AV.bool)) (fun t=>n-t.1) (0,.af,[]) ⟨⟨Nat.zero_le _,.nil⟩,⟨rfl,rfl,rfl,rfl,trivial⟩,rfl⟩ ?_
 rintro⟨i,v,acc⟩ g ⟨dY,h0⟩
 have hi:i≤n:=dY
 have h:Acc 1 i v acc (((List.range i).map f).map AV.bool):=h0
 clear dY h0
 refine ao (p:=(i:Int)<(n:Int)) (fun ab =>?_) (fun au =>?_)
 rotate_left
 ·have au:i=n:=by omega
  subst au
  have hlen:((List.range i).map f).length=i:=by rw[List.length_map,List.length_range]
  exact qG [] (s:=.bool) h hlen.symm (List.map_eq_flatMap ..) Nat.one_pos (.done ⟨rfl,rfl⟩)
 have ab:i<n:=by omega
 refine .perm (σ2:=S++(acc++σ)) _ (dO acc S σ) (sU i ab (acc++σ)) ?_
 rintro _ _ ⟨rfl,rfl⟩
 refine⟨_,(dO acc S σ).symm,?_⟩
 intro b1
 refine kr [_] h (.ae 0 b1 0 1 _ rfl (Nat.le_of_ble_eq_true rfl)) rfl (by omega) (by decide) (by decide) (fun v' bh h' =>?_)
 refine bg (i+1,v',bh) (by show n-(i+1)<n-i;omega) ⟨ab,?_⟩ ⟨rfl,rfl,rfl,a8 (by omega),trivial⟩ (.drop 0 1 (.refl _))
 show Acc 1 (i+1) v' bh (((List.range (i+1)).map f).map AV.bool)
 exact Ji (Gz f AV.bool i) h'
theorem aaC(g:FuncId)(cap:List AV)(S σ:Hp)(f:Nat→List Int)(n:Nat)(hn:n≤100000)(sU:∀i:Nat,i<n→∀τ,ACalls Tryz.prog g (.int .i64 i::cap) (S++τ) (az (.ah (.int .u64) (f i)) (S++τ))):ACalls Tryz.prog 61 [.int .i64 n,.fn (.func g) [] cap] (S++σ) (az (.ah (.slice (.int .u64)) ((List.range n).map f)) (S++σ)):=by
 refine okF Tryz.func61 (by kernel_rfl) ?_
 refine .wrap 5 .af rfl rfl ?_
 refine bO (S:=Nat×AV×Hp) (fun t=>[(1,.fn (.func g) [] cap),(5,.via t.2.1),(7,.int .i64 n),(8,.int .i64 t.1)]) (fun t=>t.2.2++(S++σ)) (fun t=>t.1≤n∧Acc 1 t.1 t.2.1 t.2.2 (((List.range t.1).map f).map (AV.ah (.int .u64)))) (fun t=>n-t.1) (0,.af,[]) ⟨⟨Nat.zero_le _,.nil⟩,⟨rfl,rfl,rfl,rfl,trivial⟩,rfl⟩ ?_
 rintro⟨i,v,acc⟩ g ⟨dY,h0⟩
 have hi:i≤n:=dY
 have h:Acc 1 i v acc (((List.range i).map f).map (AV.ah (.int .u64))):=h0
 clear dY h0
 refine ao (p:=(i:Int)<(n:Int)) (fun ab =>?_) (fun au =>?_)
 rotate_left
 ·have au:i=n:=by omega
  subst au
  have hlen:((List.range i).map f).length=i:=by rw[List.length_map,List.length_range]
  exact qG [] (s:=(.slice (.int .u64))) h hlen.symm (List.map_eq_flatMap ..) Nat.one_pos (.done ⟨rfl,rfl⟩)
 have ab:i<n:=by omega
 refine .perm (σ2:=S++(acc++σ)) _ (dO acc S σ) (sU i ab (acc++σ)) ?_
 rintro _ _ ⟨rfl,rfl⟩
 refine⟨_,(dO acc S σ).symm,?_⟩
 intro b1
 refine kr [_] h (.ae 0 b1 0 1 _ rfl (Nat.le_of_ble_eq_true rfl)) rfl (by omega) (by decide) (by decide) (fun v' bh h' =>?_)
 refine bg (i+1,v',bh) (by show n-(i+1)<n-i;omega) ⟨ab,?_⟩ ⟨rfl,rfl,rfl,a8 (by omega),trivial⟩ (.drop 0 1 (.refl _))
 show Acc 1 (i+1) v' bh (((List.range (i+1)).map f).map (AV.ah (.int .u64)))
 exact Ji (Gz f (AV.ah (.int .u64)) i) h'
end Go.Proofs.YtnpidbjdilnhlaaGreat
