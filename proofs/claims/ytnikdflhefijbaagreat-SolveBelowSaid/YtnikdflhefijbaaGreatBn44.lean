import Derived.Test.YtnikdflhefijbaaGreatBn12
import Derived.Test.YtnikdflhefijbaaGreatBn43
import Derived.Test.YtnikdflhefijbaaGreatBn30
import Derived.Test.YtnikdflhefijbaaGreatBn11
import Derived.Test.YtnikdflhefijbaaGreatBn31
import Derived.Test.YtnikdflhefijbaaGreatBn42
namespace Go.Proofs.YtnikdflhefijbaaGreat
open Go.RowKit
set_option maxRecDepth 100000
set_option maxHeartbeats 4000000
theorem abo{α β:Type}(rs:List α)(L:List β)(i:Nat)(x:β)(h:i<rs.length):rs.zip (L.set i x)=(rs.zip L).set i (rs[i],x):=by
 refine List.ext_getElem (by simp) fun k h1 h2=>?_
 rw[I0]
 simp only[List.getElem_zip,I0]
 split
 ·rename_i he;subst he;rfl
 ·rfl
set_option maxHeartbeats 4000000
abbrev kl:Sh:=.field (.int .i64) (.field (.int .i64) .nil)
theorem afc(W:AWorld)(lb:Nat)(aw:List (Int×Int×Unit))(s0:W.S)(σ:Hp)(hn:W.L.length≤100000)(hs:aw.length≤100000)(hf:W.free (W.abs s0))(lW:∀a k,W.tell a k=a):
  ACalls Tryz.prog 101 [W.mv,.ae lb 0 W.L.length 1,.af kl aw] ((lb,W.L)::(W.B s0++σ)) (KL W aw (W.abs s0) [(lb,W.L)] σ):=by
 refine ay Tryz.func101 ?_
 intro aD
 refine .perm _ (nF (a:=(aD,[.aj,.aj,.int .i64 0])) (l₁:=(lb,W.L)::W.B s0) (l₂:=σ)) (afi W lb aw s0 ((aD,[.aj,.aj,.int .i64 0])::σ) hn hs hf lW) ?_
 rintro x σ' ⟨s',h1,rfl,rfl⟩
 refine⟨_,(nF (a:=(aD,[.aj,.aj,.int .i64 0])) (l₁:=(lb,W.L)::W.B s') (l₂:=σ)).symm,?_⟩
 refine ak 0 ?_
 refine aa 0 ?_
 exact .drop 0 1 (.done ⟨s',h1,rfl,rfl⟩)
theorem Vc(sv:AV)(u:Int)(dn:List Bool)(σ:Hp)(hn:dn.length≤1000000):ACalls Tryz.prog 42 [.agg [sv,.af .bool dn,.int .i64 u]] σ (aE (.bool (dn.all id)) σ):=by
 refine ay Tryz.func42 ?_
 intro aD
 refine aa 0 ?_
 refine bV (S:=Nat) (fun s=>[(6,.af .bool dn),(7,.int .i64 dn.length),(8,.int .i64 s)]) (fun _=>(aD,[sv,.af .bool dn,.int .i64 u])::σ) (fun s=>s≤dn.length∧(dn.take s).all id=true) (fun s=>dn.length-s) 0 ⟨⟨bA _,rfl⟩,⟨rfl,rfl,rfl,trivial⟩,rfl⟩ ?_
 rintro k g ⟨hk,cg⟩
 refine an (fun h=>?_) (fun h=>?_)
 ·have h:(k:Int)<dn.length:=h
  have mG:k<dn.length:=by omega
  cases hd:dn[k] with
  |true=>
   refine ag.mk rfl (bG.mk true (by omega) ((get_some mG).trans (congrArg some hd)) ?_)
   refine a8 (k+1) ?_ ⟨mG,?_⟩ ⟨rfl,rfl,aX (by omega),trivial⟩ (aJ rfl)
   ·show dn.length-(k+1)<dn.length-k;omega
   ·rw[fp mG,zf,cg,hd];rfl
  |false=>
   refine ag.mk rfl (bG.mk false (by omega) ((get_some mG).trans (congrArg some hd)) ?_)
   exact .drop 0 1 (.done ⟨congrArg AV.bool (Ui mG hd).symm,rfl⟩)
 ·have h:¬(k:Int)<dn.length:=h
  exact .drop 0 1 (.done ⟨congrArg AV.bool (by rw[← eI (show dn.length≤k by omega)];exact cg.symm),rfl⟩)
set_option maxHeartbeats 4000000
theorem ACalls.Ve{P:Program}{f:FuncId}{xs:List AV}{σ σ2:Hp}{R R':AV→Hp→Prop}(h:ACalls P f xs σ2 R)(hp:σ2.Perm σ)(go:∀r σ',R r σ'→∃ec,ec.Perm σ'∧R' r ec):ACalls P f xs σ R':=
 xU (.perm R hp h go)
structure WZ where
 r:Nat
 c:AV
 acc:Hp
 x:WS
 rd:yH c acc x.now
def xc(s:Sy)(l:Lay)(y:(Nat×Nat)×WZ):Hp:=WB s l y.1.1 y.1.2 y.2.r y.2.c y.2.acc y.2.x
def cW(s:Sy)(l:Lay)(I:List (Nat×Nat))(Z:List WZ):Hp:=(I.zip Z).flatMap (xc s l)
structure WA where
 W:List WS
 ws:List Int
structure rI where
 ws:List Int
 Z:List WZ
def rI.abs(t:rI):WA:=⟨t.Z.map (·.x),t.ws⟩
def eU(s:Sy)(l:Lay)(a:WA)(i:Nat)(d:Int):WA×Bool:=match a.W[i]? with
 |some x=>(⟨a.W.set i (dw bB s l i x d a.ws).1,(dw bB s l i x d a.ws).2.1⟩,(dw bB s l i x d a.ws).2.2)
 |none=>(a,true)
structure uN(s:Sy)(l:Lay)(a:WA):Prop where
 len:(a.W.length:Int)=l.k
 fl:pz s l a.ws
 wv:∀(i:Nat) (x:WS),a.W[i]?=some x→WV s l i x
theorem FT{s:Sy}{l:Lay}{a:WA}{i:Nat}{d:Int}{x:WS}(h:a.W[i]?=some x):eU s l a i d=(⟨a.W.set i (dw bB s l i x d a.ws).1,(dw bB s l i x d a.ws).2.1⟩,(dw bB s l i x d a.ws).2.2):=by
 unfold eU;rw[h]
theorem uN.step{s:Sy}{l:Lay}{a:WA}(hs:LS s l)(h:uN s l a)(i:Nat)(d:Int):uN s l (eU s l a i d).1:=by
 cases hx:a.W[i]? with
 |none=>unfold eU;rw[hx];exact h
 |some x=>
  rw[FT hx]
  have hi:=(cf.1 hx).1
  have hl:=h.len
  obtain⟨h1,h2,h3⟩:=abv (d:=d) hs ⟨by omega,by omega⟩ h.fl.2 (h.wv i x hx)
  refine⟨?_,⟨h2.trans h.fl.1,h1⟩,fun j y hy=>?_⟩
  ·show ((a.W.set i _).length:Int)=l.k
   rw[cM];exact hl
  ·have hy:(a.W.set i (dw bB s l i x d a.ws).1)[j]?=some y:=hy
   rw[eR]at hy
   by_cases l9:i=j
   ·subst l9
    rw[ai rfl,ai hi]at hy
    cases hy
    exact h3
   ·rw[ah l9]at hy
    exact h.wv j y hy
section
variable {s:Sy} {l:Lay} {p q:Nat} {I:List (Nat×Nat)}
theorem Ss{Z:List WZ}{i:Nat}(hi:i<I.length)(hz:i<Z.length):(cW s l I Z).Perm (WB s l I[i].1 I[i].2 Z[i].r Z[i].c Z[i].acc Z[i].x++((I.zip Z).eraseIdx i).flatMap (xc s l)):=by
 have h:i<(I.zip Z).length:=by simp;omega
 have h1:=PW (f:=xc s l) h
 have e:(I.zip Z)[i]=(I[i],Z[i]):=by simp
 rw[e]at h1
 exact h1
theorem ZC{Z:List WZ}{i:Nat}(hi:i<I.length)(hz:i<Z.length)(y:WZ):(cW s l I (Z.set i y)).Perm (WB s l I[i].1 I[i].2 y.r y.c y.acc y.x++((I.zip Z).eraseIdx i).flatMap (xc s l)):=by
 have h:i<(I.zip Z).length:=by simp;omega
 have h1:=YX (f:=xc s l) h (I[i],y)
 rw[← abo _ _ _ _ hi]at h1
 exact h1
theorem wzP{X Y:Hp}(b:Hp)(h:X.Perm (b++Y))(ws:List Int)(σ:Hp):(aZ p q ws X++σ).Perm (b++aZ p q ws (Y++σ)):=by
 have h1:(aZ p q ws X++σ).Perm (aZ p q ws (b++Y)++σ):=List.Perm.append_right σ (List.Perm.append_left [_,_] h)
 refine h1.trans ?_
 show ([(p,tC q ws.length),(q,aM ws)]++((b++Y)++σ)).Perm (b++([(p,tC q ws.length),(q,aM ws)]++(Y++σ)))
 rw[dM]
 exact ki [[(p,tC q ws.length),(q,aM ws)],b,Y] σ (a:=[0,1,2]) (b:=[1,0,2]) (by decide)
theorem afa{t:rI}{i:Nat}{d:Int}(σ:Hp)(hs:LS s l)(hi:i<I.length)(hI:I[i].1=i)(hk:(I.length:Int)=l.k)(hf:uN s l t.abs):ACalls Tryz.prog 390 [.ptr I[i].2 0,ku p,.int .i64 d] (aZ p q t.ws (cW s l I t.Z)++σ) (fun x σ'=>∃t':rI,t'.abs=(eU s l t.abs i d).1∧x=.bool (eU s l t.abs i d).2∧σ'=aZ p q t'.ws (cW s l I t'.Z)++σ):=by
 have hz:i<t.Z.length:=by
  have h1:=hf.len
  have h2:((t.Z.map (·.x)).length:Int)=l.k:=h1
  rw[cd]at h2;omega
 have hW:t.abs.W[i]?=some t.Z[i].x:=by
  show (t.Z.map (·.x))[i]?=_
  rw[fo,bJ hz];rfl
 have hB:=wzP (p:=p) (q:=q) _ (Ss (s:=s) (l:=l) hi hz) t.ws σ
 have Iv:=fun (ws:List Int) (y:WZ)=>wzP (p:=p) (q:=q) _ (ZC (s:=s) (l:=l) hi hz y) ws σ
 have xg:=hf.wv i _ hW
 rw[hI]at hB Iv
 have aq:=FT (s:=s) (l:=l) (d:=d) hW
 have kT:∀(y:WZ),(t.Z.set i y).map (·.x)=t.abs.W.set i y.x:=fun y=>by show _=(t.Z.map (·.x)).set i y.x;rw[oM]
 rw[aq]
 refine (agj p q I[i].2 t.Z[i].r t.Z[i].c t.Z[i].acc s l i t.Z[i].x d t.ws (((I.zip t.Z).eraseIdx i).flatMap (xc s l)++σ) hs.fit hf.fl.2.a64 (xg.ok hs) t.Z[i].rd (x':=(dw bB s l i t.Z[i].x d t.ws).1) (ws':=(dw bB s l i t.Z[i].x d t.ws).2.1) (b:=(dw bB s l i t.Z[i].x d t.ws).2.2) rfl).Ve hB.symm ?_
 rintro _ _ ⟨r',c',bu,nu,rfl,rfl⟩
 refine⟨_,Iv _ ⟨r',c',bu,(dw bB s l i t.Z[i].x d t.ws).1,nu⟩,⟨(dw bB s l i t.Z[i].x d t.ws).2.1,t.Z.set i ⟨r',c',bu,(dw bB s l i t.Z[i].x d t.ws).1,nu⟩⟩,?_,rfl,rfl⟩
 exact congrArg (fun z=>WA.mk z _) (kT _)
end
theorem mWorker_ : Meth Tryz.prog 168 "Step" 390 := fun a w => by kernel_rfl
def CH(s:Sy)(l:Lay)(hs:LS s l)(p q:Nat)(I:List (Nat×Nat))(hI:∀i (h:i<I.length),I[i].1=i)(hk:(I.length:Int)=l.k):AWorld where
 A:=WA
 S:=rI
 abs:=rI.abs
 B t:=aZ p q t.ws (cW s l I t.Z)
 L:=I.map fun y=>.iface 168 (.ptr y.2 0)
 mt:=94
 mp:=p
 step:=eU s l
 tell a _:=a
 free:=uN s l
 keeps a i d h _:=h.step hs i d
 told _ _ h:=h
 mach i h:=by
  have hi:i<I.length:=by simpa using h
  refine .inr ⟨168,I[i].2,by simp,_,mWorker_,fun t d σ hf=>?_⟩
  refine (afa (p:=p) (q:=q) (t:=t) (d:=d) σ hs hi (hI i hi) hk hf).mono ?_
  rintro _ _ ⟨t',h1,rfl,rfl⟩
  exact⟨t',h1,rfl,rfl⟩
set_option maxHeartbeats 4000000
def jg(l:Lay)(ws:List Int)(n:Nat):List (List Int):=(List.range n).map fun v:Nat=>py (aS l v) ws (cw l.words)
theorem Xe(bl bm p q v:Nat)(l:Lay)(ws:List Int)(τ:Hp):ACalls Tryz.prog 105 [.int .i64 v,.ptr bl 0,.ptr bm 0] ((bl,gM l)::(bm,[ku p])::aZ p q ws τ) (aE (.af (.int .u64) (py (aS l v) ws (cw l.words))) ((bl,gM l)::(bm,[ku p])::aZ p q ws τ)):=by
 refine ay Tryz.func105 ?_
 refine .quiet (by kernel_rfl) ?_
 refine aa 0 ?_
 refine aH [] (G7 l v _) ?_
 refine aa 1 ?_
 refine aH [3,3] (agq p q ws _ _ _ _) ?_
 exact .done ⟨rfl,rfl⟩
theorem BJ(p q:Nat)(l:Lay)(n:Nat)(ws:List Int)(σ:Hp)(hn:l.n=n)(oF:n≤100000):ACalls Tryz.prog 43 [ku p,.agg (gM l)] (aZ p q ws σ) (aE (.af (.slice (.int .u64)) (jg l ws n)) (aZ p q ws σ)):=by
 refine ay Tryz.func43 ?_
 intro bm
 intro bl
 refine aa 0 ?_
 have hE:=fun τ=>aev 105 [.ptr bl 0,.ptr bm 0] ((bl,gM l)::(bm,[ku p])::aZ p q ws []) τ (fun v:Nat=>py (aS l v) ws (cw l.words)) n oF (fun i _ τ=>Xe bl bm p q i l ws τ)
 rw[← hn]at hE
 refine az [] (hE _) ?_
 exact .drop 0 2 (.done ⟨rfl,rfl⟩)
def cP(mv:AV)(l:Lay)(wv st dn:AV)(us:Int):List AV:=[mv,.int .i64 l.what,.int .i64 l.words,.int .i64 l.n,.int .i64 l.k,wv,st,dn,.int .i64 us]
def pW(w:Nat):AV:=.ptr w 0
def iW(w:Nat):AV:=.iface 168 (.ptr w 0)
theorem aee(bs bp i:Nat)(s:Sy)(l:Lay)(mv wv st dn:AV)(us:Int)(τ:Hp)(hf:Fit s)(he:ck s l.k=0)(hL:gk s l.k=l)(h1:(i:Int)<l.k):ACalls Tryz.prog 99 [.int .i64 i,.ptr bs 0,.ptr bp 0] ((bs,bc s)::(bp,cP mv l wv st dn us)::τ) (fun r σ'=>∃w,r=.ptr w 0∧σ'=WB s l i w 0 .aj [] ot++((bs,bc s)::(bp,cP mv l wv st dn us)::τ)):=by
 refine ay Tryz.func99 ?_
 refine aa 0 ?_
 refine aa 1 ?_
 (refine .mk [] _ (aeo s l i _ hf he hL (by omega) h1) ?_;rintro _ _ ⟨w,rfl,rfl⟩)
 exact .done ⟨w,rfl,rfl⟩
theorem aed(bp lw i n:Nat)(L:List Nat)(l:Lay)(mv st dn:AV)(us:Int)(τ:Hp)(hl:L.length=n)(hi:i<n):ACalls Tryz.prog 103 [.int .i64 i,.ptr bp 0] ((bp,cP mv l (.ae lw 0 n 1) st dn us)::(lw,L.map pW)::τ) (aE (iW (L.getD i 0)) ((bp,cP mv l (.ae lw 0 n 1) st dn us)::(lw,L.map pW)::τ)):=by
 have hg:(L.map pW)[0+((i:Int)).toNat*1]?=some (.ptr (L.getD i 0) 0):=by
  rw[bM,eH,eF,fo,bJ (by omega),aW,bJ (by omega)];rfl
 refine ay Tryz.func103 ?_
 refine aa 0 ?_
 refine ag.mk ⟨rfl,by omega,by omega⟩ ?_
 refine aT 1 rfl (je rfl hg) ?_
 exact .done ⟨rfl,rfl⟩
def cc(L:List Nat):List (Nat×Nat):=(List.range L.length).zip L
def iY:WZ:=⟨0,.aj,[],ot,trivial⟩
theorem Ca(L:List Nat):∀i (h:i<(cc L).length),(cc L)[i].1=i:=fun i h=>by simp[cc]
theorem B9(L:List Nat):(cc L).length=L.length:=by simp[cc]
theorem aas(L:List Nat):(cc L).map (fun y=>AV.iface 168 (.ptr y.2 0))=L.map iW:=by
 unfold cc
 have:(fun y:Nat×Nat=>AV.iface 168 (.ptr y.2 0))=iW ∘ Prod.snd:=rfl
 rw[this,← List.map_map,List.map_snd_zip (by simp)]
theorem ZB(s:Sy)(l:Lay)(L:List Nat)(w:Nat):cW s l (cc (L++[w])) (List.replicate (L++[w]).length iY)=cW s l (cc L) (List.replicate L.length iY)++WB s l L.length w 0 .aj [] ot:=by
 have e1:cc (L++[w])=cc L++[(L.length,w)]:=by
  unfold cc
  rw[List.length_append,List.length_singleton,List.range_succ,List.zip_append (by simp)];rfl
 have e2:List.replicate (L++[w]).length iY=List.replicate L.length iY++[iY]:=by
  rw[bQ,sF,List.replicate_succ']
 unfold cW
 rw[e1,e2,List.zip_append (by rw[gb,B9]),zl]
 rfl
end Go.Proofs.YtnikdflhefijbaaGreat
