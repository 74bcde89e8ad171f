import Derived.Test.YtnpidbjdilnhlaaGreatBn13
import Derived.Test.YtnpidbjdilnhlaaGreatBn12
import Derived.Test.YtnpidbjdilnhlaaGreatBn49
import Derived.Test.YtnpidbjdilnhlaaGreatBn31
import Derived.Test.YtnpidbjdilnhlaaGreatBn11
import Derived.Test.YtnpidbjdilnhlaaGreatBn33
import Derived.Test.YtnpidbjdilnhlaaGreatBn48
import Derived.Test.YtnpidbjdilnhlaaGreatBn1
namespace Go.Proofs.YtnpidbjdilnhlaaGreat
open Go.RowKit
set_option maxRecDepth 100000
set_option maxHeartbeats 4000000
theorem SF{α β:Type}(rs:List α)(L:List β)(i:Nat)(x:β)(h:i<rs.length):rs.zip (L.set i x)=(rs.zip L).set i (rs[i],x):=by
 refine List.ext_getElem (by simp) fun k h1 h2 =>?_
 rw[List.getElem_set]
 simp only[List.getElem_zip,List.getElem_set]
 split
 ·rename_i he;subst he;rfl
 ·rfl
end Go.Proofs.YtnpidbjdilnhlaaGreat
namespace Go.Proofs.YtnpidbjdilnhlaaGreat
open Go.RowKit
set_option maxRecDepth 100000
set_option maxHeartbeats 4000000
abbrev lz:Sh:=.field (.int .i64) (.field (.int .i64) .nil)
theorem Wz(W:AWorld)(lb:Nat)(aE:List (Int×Int×Unit))(s0:W.S)(σ:Hp)(hn:W.L.length≤100000)(hs:aE.length≤100000)(hf:W.free (W.abs s0))(jz:∀a k,W.tell a k=a):
  ACalls Tryz.prog 127 [W.mv,.ae lb 0 W.L.length 1,.af lz aE] ((lb,W.L)::(W.B s0++σ)) (Dz W aE (W.abs s0) [(lb,W.L)] σ):=by
 refine okF Tryz.func127 (by kernel_rfl) ?_
 intro aC
 refine .perm _ (List.perm_middle (a:=(aC,[.aj,.aj,.int .i64 0])) (l₁:=(lb,W.L)::W.B s0) (l₂:=σ)) (WL W lb aE s0 ((aC,[.aj,.aj,.int .i64 0])::σ) hn hs hf jz) ?_
 rintro x σ' ⟨s',h1,rfl,rfl⟩
 refine⟨_,(List.perm_middle (a:=(aC,[.aj,.aj,.int .i64 0])) (l₁:=(lb,W.L)::W.B s') (l₂:=σ)).symm,?_⟩
 refine ai.mk 0 _ _ rfl rfl ?_
 refine aa.mk 0 _ _ rfl rfl ?_
 exact .drop 0 1 (.done ⟨s',h1,rfl,rfl⟩)
theorem L7(sv:AV)(u:Int)(dn:List Bool)(σ:Hp)(hn:dn.length≤1000000):ACalls Tryz.prog 67 [.agg [sv,.af .bool dn,.int .i64 u]] σ (aB (.bool (dn.all id)) σ):=by
 refine okF Tryz.func67 (by kernel_rfl) ?_
 intro aC
 refine aa.mk 0 _ _ rfl rfl ?_
 refine aU (S:=Nat) (fun s=>[(6,.af .bool dn),(7,.int .i64 dn.length),(8,.int .i64 s)]) (fun _=>(aC,[sv,.af .bool dn,.int .i64 u])::σ) (fun s=>s≤dn.length∧(dn.take s).all id=true) (fun s=>dn.length-s) 0 ⟨⟨Nat.zero_le _,rfl⟩,⟨rfl,rfl,rfl,trivial⟩,rfl⟩ ?_
 rintro k g ⟨hk,bH⟩
 refine an (fun h =>?_) (fun h =>?_)
 ·have h:(k:Int)<dn.length:=h
  have j6:k<dn.length:=by omega
  cases hd:dn[k] with
  | true =>
   refine ah.mk rfl (aT.mk true (by omega) ((get_some j6).trans (congrArg some hd)) ?_)
   refine aH (k+1) ?_ ⟨j6,?_⟩ ⟨rfl,rfl,aI (by omega),trivial⟩ (aF rfl)
   ·show dn.length-(k+1)<dn.length-k;omega
   ·rw[List.take_succ_eq_append_getElem j6,List.all_append,bH,hd];rfl
  | false =>
   refine ah.mk rfl (aT.mk false (by omega) ((get_some j6).trans (congrArg some hd)) ?_)
   exact .drop 0 1 (.done ⟨congrArg AV.bool (Lk j6 hd).symm,rfl⟩)
 ·have h:¬(k:Int)<dn.length:=h
  exact .drop 0 1 (.done ⟨congrArg AV.bool (by rw[← List.take_of_length_le (show dn.length≤k by omega)];exact bH.symm),rfl⟩)
end Go.Proofs.YtnpidbjdilnhlaaGreat
namespace Go.Proofs.YtnpidbjdilnhlaaGreat
open Go.RowKit
set_option maxRecDepth 100000
set_option maxHeartbeats 4000000
theorem ACalls.Ma{P:Program}{f:FuncId}{xs:List AV}{σ σ2:Hp}{R R':AV→Hp→Prop}(h:ACalls P f xs σ2 R)(hp:σ2.Perm σ)(go:∀r σ',R r σ'→∃cR,cR.Perm σ'∧R' r cR):ACalls P f xs σ R':=
 sW (.perm R hp h go)
structure WZ where
 r:Nat
 c:AV
 acc:Hp
 x:WS
 rd:tA c acc x.now
def si(s:Sy)(l:Lay)(y:(Nat×Nat)×WZ):Hp:=WB s l y.1.1 y.1.2 y.2.r y.2.c y.2.acc y.2.x
def db(s:Sy)(l:Lay)(I:List (Nat×Nat))(Z:List WZ):Hp:=(I.zip Z).flatMap (si s l)
structure WA where
 W:List WS
 ws:List Int
structure nI where
 ws:List Int
 Z:List WZ
def nI.abs(t:nI):WA:=⟨t.Z.map (·.x),t.ws⟩
def iB(s:Sy)(l:Lay)(a:WA)(i:Nat)(d:Int):WA×Bool:=match a.W[i]? with
 | some x=>(⟨a.W.set i (dq dK s l i x d a.ws).1,(dq dK s l i x d a.ws).2.1⟩,(dq dK s l i x d a.ws).2.2)
 | none=>(a,true)
structure tw(s:Sy)(l:Lay)(a:WA):Prop where
 len:(a.W.length:Int)=l.k
 fl:lQ s l a.ws
 wv:∀(i:Nat) (x:WS),a.W[i]?=some x→WV s l i x
theorem IX{s:Sy}{l:Lay}{a:WA}{i:Nat}{d:Int}{x:WS}(h:a.W[i]?=some x):iB s l a i d=(⟨a.W.set i (dq dK s l i x d a.ws).1,(dq dK s l i x d a.ws).2.1⟩,(dq dK s l i x d a.ws).2.2):=by
 unfold iB;rw[h]
theorem tw.step{s:Sy}{l:Lay}{a:WA}(hs:LS s l)(h:tw s l a)(i:Nat)(d:Int):tw s l (iB s l a i d).1:=by
 cases hx:a.W[i]? with
 | none=>unfold iB;rw[hx];exact h
 | some x =>
  rw[IX hx]
  have hi:=(List.getElem?_eq_some_iff.1 hx).1
  have hl:=h.len
  obtain⟨h1,h2,h3⟩:=SM (d:=d) hs ⟨by omega,by omega⟩ h.fl.2 (h.wv i x hx)
  refine⟨?_,⟨h2.trans h.fl.1,h1⟩,fun j y hy =>?_⟩
  ·show ((a.W.set i _).length:Int)=l.k
   rw[List.length_set];exact hl
  ·have hy:(a.W.set i (dq dK s l i x d a.ws).1)[j]?=some y:=hy
   rw[List.getElem?_set]at hy
   by_cases jK:i=j
   ·subst jK
    rw[if_pos rfl,if_pos hi]at hy
    cases hy
    exact h3
   ·rw[if_neg jK]at hy
    exact h.wv j y hy
section
variable {s:Sy} {l:Lay} {p q:Nat} {I:List (Nat×Nat)}
theorem JV{Z:List WZ}{i:Nat}(hi:i<I.length)(hz:i<Z.length):(db s l I Z).Perm (WB s l I[i].1 I[i].2 Z[i].r Z[i].c Z[i].acc Z[i].x++((I.zip Z).eraseIdx i).flatMap (si s l)):=by
 have h:i<(I.zip Z).length:=by simp;omega
 have h1:=HD (f:=si s l) h
 have e:(I.zip Z)[i]=(I[i],Z[i]):=by simp
 rw[e]at h1
 exact h1
theorem QP{Z:List WZ}{i:Nat}(hi:i<I.length)(hz:i<Z.length)(y:WZ):(db s l I (Z.set i y)).Perm (WB s l I[i].1 I[i].2 y.r y.c y.acc y.x++((I.zip Z).eraseIdx i).flatMap (si s l)):=by
 have h:i<(I.zip Z).length:=by simp;omega
 have h1:=Qc (f:=si s l) h (I[i],y)
 rw[← SF _ _ _ _ hi]at h1
 exact h1
theorem wzP{X Y:Hp}(b:Hp)(h:X.Perm (b++Y))(ws:List Int)(σ:Hp):(aY p q ws X++σ).Perm (b++aY p q ws (Y++σ)):=by
 have h1:(aY p q ws X++σ).Perm (aY p q ws (b++Y)++σ):=List.Perm.append_right σ (List.Perm.append_left [_,_] h)
 refine h1.trans ?_
 show ([(p,ns q ws.length),(q,aL ws)]++((b++Y)++σ)).Perm (b++([(p,ns q ws.length),(q,aL ws)]++(Y++σ)))
 rw[List.append_assoc]
 exact kb [[(p,ns q ws.length),(q,aL ws)],b,Y] σ (a:=[0,1,2]) (b:=[1,0,2]) (by decide)
theorem Wy{t:nI}{i:Nat}{d:Int}(σ:Hp)(hs:LS s l)(hi:i<I.length)(hI:I[i].1=i)(hk:(I.length:Int)=l.k)(hf:tw s l t.abs):ACalls Tryz.prog 357 [.ptr I[i].2 0,gx p,.int .i64 d] (aY p q t.ws (db s l I t.Z)++σ) (fun x σ'=>∃t':nI,t'.abs=(iB s l t.abs i d).1∧x=.bool (iB s l t.abs i d).2∧σ'=aY p q t'.ws (db s l I t'.Z)++σ):=by
 have hz:i<t.Z.length:=by
  have h1:=hf.len
  have h2:((t.Z.map (·.x)).length:Int)=l.k:=h1
  rw[List.length_map]at h2;omega
 have hW:t.abs.W[i]?=some t.Z[i].x:=by
  show (t.Z.map (·.x))[i]?=_
  rw[List.getElem?_map,List.getElem?_eq_getElem hz];rfl
 have hB:=wzP (p:=p) (q:=q) _ (JV (s:=s) (l:=l) hi hz) t.ws σ
 have B0:=fun (ws:List Int) (y:WZ)=>wzP (p:=p) (q:=q) _ (QP (s:=s) (l:=l) hi hz y) ws σ
 have hwv:=hf.wv i _ hW
 rw[hI]at hB B0
 have ar:=IX (s:=s) (l:=l) (d:=d) hW
 have iF:∀(y:WZ),(t.Z.set i y).map (·.x)=t.abs.W.set i y.x:=fun y=>by show _=(t.Z.map (·.x)).set i y.x;rw[List.map_set]
 rw[ar]
 refine (XU p q I[i].2 t.Z[i].r t.Z[i].c t.Z[i].acc s l i t.Z[i].x d t.ws (((I.zip t.Z).eraseIdx i).flatMap (si s l)++σ) hs.fit hf.fl.2.a64 (hwv.ok hs) t.Z[i].rd (x':=(dq dK s l i t.Z[i].x d t.ws).1) (ws':=(dq dK s l i t.Z[i].x d t.ws).2.1) (b:=(dq dK s l i t.Z[i].x d t.ws).2.2) rfl).Ma hB.symm ?_
 rintro _ _ ⟨r',c',aP,lV,rfl,rfl⟩
 refine⟨_,B0 _ ⟨r',c',aP,(dq dK s l i t.Z[i].x d t.ws).1,lV⟩,⟨(dq dK s l i t.Z[i].x d t.ws).2.1,t.Z.set i ⟨r',c',aP,(dq dK s l i t.Z[i].x d t.ws).1,lV⟩⟩,?_,rfl,rfl⟩
 exact congrArg (fun z=>WA.mk z _) (iF _)
end
theorem mWorker_ : Meth Tryz.prog 173 "Step" 357 := fun a w => by kernel_rfl
def xk(s:Sy)(l:Lay)(hs:LS s l)(p q:Nat)(I:List (Nat×Nat))(hI:∀i (h:i<I.length),I[i].1=i)(hk:(I.length:Int)=l.k):AWorld where
 A:=WA
 S:=nI
 abs:=nI.abs
 B t:=aY p q t.ws (db s l I t.Z)
 L:=I.map fun y=>.iface 173 (.ptr y.2 0)
 mt:=34
 mp:=p
 step:=iB s l
 tell a _:=a
 free:=tw s l
 keeps a i d h _:=h.step hs i d
 told _ _ h:=h
 mach i h:=by
  have hi:i<I.length:=by simpa using h
  refine .inr ⟨173,I[i].2,by simp,_,mWorker_,fun t d σ hf =>?_⟩
  refine (Wy (p:=p) (q:=q) (t:=t) (d:=d) σ hs hi (hI i hi) hk hf).mono ?_
  rintro _ _ ⟨t',h1,rfl,rfl⟩
  exact⟨t',h1,rfl,rfl⟩
end Go.Proofs.YtnpidbjdilnhlaaGreat
namespace Go.Proofs.YtnpidbjdilnhlaaGreat
open Go.RowKit
set_option maxRecDepth 100000
set_option maxHeartbeats 4000000
def gW(l:Lay)(ws:List Int)(n:Nat):List (List Int):=(List.range n).map fun v:Nat=>gZ (cy l v) ws (cw l.words)
theorem Od(bl bm p q v:Nat)(l:Lay)(ws:List Int)(τ:Hp):ACalls Tryz.prog 62 [.int .i64 v,.ptr bl 0,.ptr bm 0] ((bl,de l)::(bm,[gx p])::aY p q ws τ) (aB (.af (.int .u64) (gZ (cy l v) ws (cw l.words))) ((bl,de l)::(bm,[gx p])::aY p q ws τ)):=by
 refine okF Tryz.func62 (by kernel_rfl) ?_
 refine .quiet (by kernel_rfl) ?_
 refine aa.mk 0 _ _ rfl rfl ?_
 refine aJ [] (AU l v _) ?_
 refine aa.mk 1 _ _ rfl rfl ?_
 refine aJ [3,3] (XZ p q ws _ _ _ _) ?_
 exact .done ⟨rfl,rfl⟩
theorem CM(p q:Nat)(l:Lay)(n:Nat)(ws:List Int)(σ:Hp)(hn:l.n=n)(pK:n≤100000):ACalls Tryz.prog 22 [gx p,.agg (de l)] (aY p q ws σ) (aB (.af (.slice (.int .u64)) (gW l ws n)) (aY p q ws σ)):=by
 refine okF Tryz.func22 (by kernel_rfl) ?_
 intro bm
 intro bl
 refine aa.mk 0 _ _ rfl rfl ?_
 have hE:=fun τ=>VO 62 [.ptr bl 0,.ptr bm 0] ((bl,de l)::(bm,[gx p])::aY p q ws []) τ (fun v:Nat=>gZ (cy l v) ws (cw l.words)) n pK (fun i _ τ=>Od bl bm p q i l ws τ)
 rw[← hn]at hE
 refine az [] (hE _) ?_
 exact .drop 0 2 (.done ⟨rfl,rfl⟩)
def cE(mv:AV)(l:Lay)(wv st dn:AV)(us:Int):List AV:=[mv,.int .i64 l.ag,.int .i64 l.words,.int .i64 l.n,.int .i64 l.k,wv,st,dn,.int .i64 us]
def pW(w:Nat):AV:=.ptr w 0
def iW(w:Nat):AV:=.iface 173 (.ptr w 0)
theorem Vu(bs bp i:Nat)(s:Sy)(l:Lay)(mv wv st dn:AV)(us:Int)(τ:Hp)(hf:Fit s)(he:cb s l.k=0)(hL:eP s l.k=l)(h1:(i:Int)<l.k):ACalls Tryz.prog 125 [.int .i64 i,.ptr bs 0,.ptr bp 0] ((bs,bg s)::(bp,cE mv l wv st dn us)::τ) (fun r σ'=>∃w,r=.ptr w 0∧σ'=WB s l i w 0 .aj [] pG++((bs,bg s)::(bp,cE mv l wv st dn us)::τ)):=by
 refine okF Tryz.func125 (by kernel_rfl) ?_
 refine aa.mk 0 _ _ rfl rfl ?_
 refine aa.mk 1 _ _ rfl rfl ?_
 (refine .mk [] _ (VJ s l i _ hf he hL (by omega) h1) ?_;rintro _ _ ⟨w,rfl,rfl⟩)
 exact .done ⟨w,rfl,rfl⟩
theorem Vt(bp lw i n:Nat)(L:List Nat)(l:Lay)(mv st dn:AV)(us:Int)(τ:Hp)(hl:L.length=n)(hi:i<n):ACalls Tryz.prog 129 [.int .i64 i,.ptr bp 0] ((bp,cE mv l (.ae lw 0 n 1) st dn us)::(lw,L.map pW)::τ) (aB (iW (L.getD i 0)) ((bp,cE mv l (.ae lw 0 n 1) st dn us)::(lw,L.map pW)::τ)):=by
 have hg:(L.map pW)[0+((i:Int)).toNat*1]?=some (.ptr (L.getD i 0) 0):=by
  rw[Int.toNat_natCast,Nat.mul_one,Nat.zero_add,List.getElem?_map,List.getElem?_eq_getElem (by omega),List.getD_eq_getElem?_getD,List.getElem?_eq_getElem (by omega)];rfl
 refine okF Tryz.func129 (by kernel_rfl) ?_
 refine aa.mk 0 _ _ rfl rfl ?_
 refine ah.mk ⟨rfl,by omega,by omega⟩ ?_
 refine aa.mk 1 _ _ rfl (eO rfl hg) ?_
 exact .done ⟨rfl,rfl⟩
def bU(L:List Nat):List (Nat×Nat):=(List.range L.length).zip L
def fV:WZ:=⟨0,.aj,[],pG,trivial⟩
theorem wU(L:List Nat):∀i (h:i<(bU L).length),(bU L)[i].1=i:=fun i h=>by simp[bU]
theorem wT(L:List Nat):(bU L).length=L.length:=by simp[bU]
theorem RA(L:List Nat):(bU L).map (fun y=>AV.iface 173 (.ptr y.2 0))=L.map iW:=by
 unfold bU
 have:(fun y:Nat×Nat=>AV.iface 173 (.ptr y.2 0))=iW ∘ Prod.snd:=rfl
 rw[this,← List.map_map,List.map_snd_zip (by simp)]
theorem QO(s:Sy)(l:Lay)(L:List Nat)(w:Nat):db s l (bU (L++[w])) (List.replicate (L++[w]).length fV)=db s l (bU L) (List.replicate L.length fV)++WB s l L.length w 0 .aj [] pG:=by
 have e1:bU (L++[w])=bU L++[(L.length,w)]:=by
  unfold bU
  rw[List.length_append,List.length_singleton,List.range_succ,List.zip_append (by simp)];rfl
 have e2:List.replicate (L++[w]).length fV=List.replicate L.length fV++[fV]:=by
  rw[List.length_append,List.length_singleton,List.replicate_succ']
 unfold db
 rw[e1,e2,List.zip_append (by rw[List.length_replicate,wT]),List.flatMap_append]
 rfl
end Go.Proofs.YtnpidbjdilnhlaaGreat
namespace Go.Proofs.YtnpidbjdilnhlaaGreat
open Go.RowKit
set_option maxRecDepth 100000
set_option maxHeartbeats 4000000
theorem A7(a:List Int)(i:Nat):a.getD i 0=wd a i:=by rw[List.getD_eq_getElem?_getD];rfl
section
variable {s:Sy} {l:Lay} (hs:LS s l)
include hs
theorem LS.WN:cT s.ag s.w=(nW l:Int):=by have:=hs.words;have:=hs.ww;omega
theorem LS.Mb{a:List Int}:mN s.ag s.w a↔(a.length=nW l∧∀i,i<nW l→gr s.ag s.w i (a.getD i 0)):=by
 rw[wE hs.kr.qV,hs.WN]
 constructor
 ·rintro⟨h1,h2⟩
  have h1:a.length=nW l:=by omega
  exact⟨h1,fun i hi=>by rw[A7];exact h2 i (by omega)⟩
 ·rintro⟨h1,h2⟩
  exact⟨by omega,fun i hi=>by rw[← A7];exact h2 i (by omega)⟩
end
section
variable {s:Sy} {l:Lay} {hs:LS s l} {W:List WS} {ws:List Int} {D:List (List Nat)} {T:Nat→Nat} {M:Nat}
end
end Go.Proofs.YtnpidbjdilnhlaaGreat
