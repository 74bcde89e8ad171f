import Derived.Test.YtnikdflhefijbaaGreatBn5
import Derived.Test.YtnikdflhefijbaaGreatBn6
import Derived.Test.YtnikdflhefijbaaGreatBn17
import Derived.Test.YtnikdflhefijbaaGreatBn12
import Derived.Test.YtnikdflhefijbaaGreatBn1
namespace Go.Proofs.YtnikdflhefijbaaGreat
open Go.RowKit
set_option maxRecDepth 100000
set_option maxHeartbeats 4000000
theorem adm{α β:Type}(rs:List α)(L:List β)(i:Nat)(x:β)(h:i<rs.length):rs.zip (L.set i x)=(rs.zip L).set i (rs[i],x):=by
 refine List.ext_getElem (by simp) fun k h1 h2=>?_
 rw[FM]
 simp only[List.getElem_zip,FM]
 split
 ·rename_i he;subst he;rfl
 ·rfl
set_option maxHeartbeats 4000000
abbrev jq:Sh:=.field (.int .i64) (.field (.int .i64) .nil)
theorem ahi(W:AWorld)(lb:Nat)(aw:List (Int×Int×Unit))(s0:W.S)(σ:Hp)(hn:W.L.length≤100000)(hs:aw.length≤100000)(hf:W.free (W.abs s0))(mg:∀a k,W.tell a k=a):
  ACalls Tryz.prog 101 [W.mv,.af lb 0 W.L.length 1,.ae jq aw] ((lb,W.L)::(W.B s0++σ)) (L3 W aw (W.abs s0) [(lb,W.L)] σ):=by
 refine au Tryz.func101 ?_
 intro aD
 refine .perm _ (nX (a:=(aD,[.ai,.ai,.int .i64 0])) (l₁:=(lb,W.L)::W.B s0) (l₂:=σ)) (ahp W lb aw s0 ((aD,[.ai,.ai,.int .i64 0])::σ) hn hs hf mg) ?_
 rintro x σ' ⟨s',h1,rfl,rfl⟩
 refine⟨_,(nX (a:=(aD,[.ai,.ai,.int .i64 0])) (l₁:=(lb,W.L)::W.B s') (l₂:=σ)).symm,?_⟩
 refine aj 0 ?_
 refine aa 0 ?_
 exact .drop 0 1 (.done ⟨s',h1,rfl,rfl⟩)
set_option maxHeartbeats 4000000
theorem ACalls.Wy{P:Program}{f:FuncId}{xs:List AV}{σ σ2:Hp}{R R':AV→Hp→Prop}(h:ACalls P f xs σ2 R)(hp:σ2.Perm σ)(go:∀r σ',R r σ'→∃ep,ep.Perm σ'∧R' r ep):ACalls P f xs σ R':=
 yF (.perm R hp h go)
structure WZ where
 r:Nat
 c:AV
 acc:Hp
 x:WS
 rd:zn c acc x.now
def xO(s:Sy)(l:Lay)(y:(Nat×Nat)×WZ):Hp:=WB s l y.1.1 y.1.2 y.2.r y.2.c y.2.acc y.2.x
def eo(s:Sy)(l:Lay)(I:List (Nat×Nat))(Z:List WZ):Hp:=(I.zip Z).flatMap (xO s l)
structure WA where
 W:List WS
 ws:List Int
structure sj where
 ws:List Int
 Z:List WZ
def sj.abs(t:sj):WA:=⟨t.Z.map (·.x),t.ws⟩
def ei(s:Sy)(l:Lay)(a:WA)(i:Nat)(d:Int):WA×Bool:=match a.W[i]? with
 |some x=>(⟨a.W.set i (dE bC s l i x d a.ws).1,(dE bC s l i x d a.ws).2.1⟩,(dE bC s l i x d a.ws).2.2)
 |none=>(a,true)
structure vA(s:Sy)(l:Lay)(a:WA):Prop where
 len:(a.W.length:Int)=l.k
 fl:pT s l a.ws
 wv:∀(i:Nat) (x:WS),a.W[i]?=some x→WV s l i x
theorem C3{s:Sy}{l:Lay}{a:WA}{i:Nat}{d:Int}{x:WS}(h:a.W[i]?=some x):ei s l a i d=(⟨a.W.set i (dE bC s l i x d a.ws).1,(dE bC s l i x d a.ws).2.1⟩,(dE bC s l i x d a.ws).2.2):=by
 unfold ei;rw[h]
theorem vA.step{s:Sy}{l:Lay}{a:WA}(hs:LS s l)(h:vA s l a)(i:Nat)(d:Int):vA s l (ei s l a i d).1:=by
 cases hx:a.W[i]? with
 |none=>unfold ei;rw[hx];exact h
 |some x=>
  rw[C3 hx]
  have hi:=(ck.1 hx).1
  have hl:=h.len
  obtain⟨h1,h2,h3⟩:=ads (d:=d) hs ⟨by omega,by omega⟩ h.fl.2 (h.wv i x hx)
  refine⟨?_,⟨h2.trans h.fl.1,h1⟩,fun j y hy=>?_⟩
  ·show ((a.W.set i _).length:Int)=l.k
   rw[cM];exact hl
  ·have hy:(a.W.set i (dE bC s l i x d a.ws).1)[j]?=some y:=hy
   rw[e9]at hy
   by_cases jB:i=j
   ·subst jB
    rw[ah rfl,ah hi]at hy
    cases hy
    exact h3
   ·rw[ag jB]at hy
    exact h.wv j y hy
section
variable {s:Sy} {l:Lay} {p q:Nat} {I:List (Nat×Nat)}
theorem TF{Z:List WZ}{i:Nat}(hi:i<I.length)(hz:i<Z.length):(eo s l I Z).Perm (WB s l I[i].1 I[i].2 Z[i].r Z[i].c Z[i].acc Z[i].x++((I.zip Z).eraseIdx i).flatMap (xO s l)):=by
 have h:i<(I.zip Z).length:=by simp;omega
 have h1:=QY (f:=xO s l) h
 have e:(I.zip Z)[i]=(I[i],Z[i]):=by simp
 rw[e]at h1
 exact h1
theorem ab4{Z:List WZ}{i:Nat}(hi:i<I.length)(hz:i<Z.length)(y:WZ):(eo s l I (Z.set i y)).Perm (WB s l I[i].1 I[i].2 y.r y.c y.acc y.x++((I.zip Z).eraseIdx i).flatMap (xO s l)):=by
 have h:i<(I.zip Z).length:=by simp;omega
 have h1:=aao (f:=xO s l) h (I[i],y)
 rw[← adm _ _ _ _ hi]at h1
 exact h1
theorem wzP{X Y:Hp}(b:Hp)(h:X.Perm (b++Y))(ws:List Int)(σ:Hp):(bG p q ws X++σ).Perm (b++bG p q ws (Y++σ)):=by
 have h1:(bG p q ws X++σ).Perm (bG p q ws (b++Y)++σ):=List.Perm.append_right σ (List.Perm.append_left [_,_] h)
 refine h1.trans ?_
 show ([(p,uf q ws.length),(q,bz ws)]++((b++Y)++σ)).Perm (b++([(p,uf q ws.length),(q,bz ws)]++(Y++σ)))
 rw[dQ]
 exact n5 [[(p,uf q ws.length),(q,bz ws)],b,Y] σ (a:=[0,1,2]) (b:=[1,0,2]) (by decide)
theorem ahg{t:sj}{i:Nat}{d:Int}(σ:Hp)(hs:LS s l)(hi:i<I.length)(hI:I[i].1=i)(hk:(I.length:Int)=l.k)(hf:vA s l t.abs):ACalls Tryz.prog 390 [.ptr I[i].2 0,kB p,.int .i64 d] (bG p q t.ws (eo s l I t.Z)++σ) (fun x σ'=>∃t':sj,t'.abs=(ei s l t.abs i d).1∧x=.bool (ei s l t.abs i d).2∧σ'=bG p q t'.ws (eo s l I t'.Z)++σ):=by
 have hz:i<t.Z.length:=by
  have h1:=hf.len
  have h2:((t.Z.map (·.x)).length:Int)=l.k:=h1
  rw[cj]at h2;omega
 have hW:t.abs.W[i]?=some t.Z[i].x:=by
  show (t.Z.map (·.x))[i]?=_
  rw[fm,bj hz];rfl
 have hB:=wzP (p:=p) (q:=q) _ (TF (s:=s) (l:=l) hi hz) t.ws σ
 have xU:=fun (ws:List Int) (y:WZ)=>wzP (p:=p) (q:=q) _ (ab4 (s:=s) (l:=l) hi hz y) ws σ
 have xS:=hf.wv i _ hW
 rw[hI]at hB xU
 have an:=C3 (s:=s) (l:=l) (d:=d) hW
 have j5:∀(y:WZ),(t.Z.set i y).map (·.x)=t.abs.W.set i y.x:=fun y=>by show _=(t.Z.map (·.x)).set i y.x;rw[nU]
 rw[an]
 refine (aiv p q I[i].2 t.Z[i].r t.Z[i].c t.Z[i].acc s l i t.Z[i].x d t.ws (((I.zip t.Z).eraseIdx i).flatMap (xO s l)++σ) hs.fit hf.fl.2.a64 (xS.ok hs) t.Z[i].rd (x':=(dE bC s l i t.Z[i].x d t.ws).1) (ws':=(dE bC s l i t.Z[i].x d t.ws).2.1) (b:=(dE bC s l i t.Z[i].x d t.ws).2.2) rfl).Wy hB.symm ?_
 rintro _ _ ⟨r',c',bQ,nO,rfl,rfl⟩
 refine⟨_,xU _ ⟨r',c',bQ,(dE bC s l i t.Z[i].x d t.ws).1,nO⟩,⟨(dE bC s l i t.Z[i].x d t.ws).2.1,t.Z.set i ⟨r',c',bQ,(dE bC s l i t.Z[i].x d t.ws).1,nO⟩⟩,?_,rfl,rfl⟩
 exact congrArg (fun z=>WA.mk z _) (j5 _)
end
theorem mWorker_ : Meth Tryz.prog 168 "Step" 390 := fun a w => by kernel_rfl
def DJ(s:Sy)(l:Lay)(hs:LS s l)(p q:Nat)(I:List (Nat×Nat))(hI:∀i (h:i<I.length),I[i].1=i)(hk:(I.length:Int)=l.k):AWorld where
 A:=WA
 S:=sj
 abs:=sj.abs
 B t:=bG p q t.ws (eo s l I t.Z)
 L:=I.map fun y=>.iface 168 (.ptr y.2 0)
 mt:=94
 mp:=p
 step:=ei s l
 tell a _:=a
 free:=vA s l
 keeps a i d h _:=h.step hs i d
 told _ _ h:=h
 mach i h:=by
  have hi:i<I.length:=by simpa using h
  refine .inr ⟨168,I[i].2,by simp,_,mWorker_,fun t d σ hf=>?_⟩
  refine (ahg (p:=p) (q:=q) (t:=t) (d:=d) σ hs hi (hI i hi) hk hf).mono ?_
  rintro _ _ ⟨t',h1,rfl,rfl⟩
  exact⟨t',h1,rfl,rfl⟩
set_option maxHeartbeats 4000000
def qz(l:Lay)(ws:List Int)(n:Nat):List (List Int):=(List.range n).map fun v:Nat=>pS (aX l v) ws (cw l.words)
theorem YD(bl bm p q v:Nat)(l:Lay)(ws:List Int)(τ:Hp):ACalls Tryz.prog 105 [.int .i64 v,.ptr bl 0,.ptr bm 0] ((bl,gR l)::(bm,[kB p])::bG p q ws τ) (aB (.ae (.int .u64) (pS (aX l v) ws (cw l.words))) ((bl,gR l)::(bm,[kB p])::bG p q ws τ)):=by
 refine au Tryz.func105 ?_
 refine .quiet (by kernel_rfl) ?_
 refine aa 0 ?_
 refine aH [] (HX l v _) ?_
 refine aa 1 ?_
 refine aH [3,3] (aiC p q ws _ _ _ _) ?_
 exact .done ⟨rfl,rfl⟩
theorem KX(p q:Nat)(l:Lay)(n:Nat)(ws:List Int)(σ:Hp)(hn:l.n=n)(oU:n≤100000):ACalls Tryz.prog 43 [kB p,.agg (gR l)] (bG p q ws σ) (aB (.ae (.slice (.int .u64)) (qz l ws n)) (bG p q ws σ)):=by
 refine au Tryz.func43 ?_
 intro bm
 intro bl
 refine aa 0 ?_
 have hE:=fun τ=>agz 105 [.ptr bl 0,.ptr bm 0] ((bl,gR l)::(bm,[kB p])::bG p q ws []) τ (fun v:Nat=>pS (aX l v) ws (cw l.words)) n oU (fun i _ τ=>YD bl bm p q i l ws τ)
 rw[← hn]at hE
 refine az [] (hE _) ?_
 exact .drop 0 2 (.done ⟨rfl,rfl⟩)
def dg(mv:AV)(l:Lay)(wv st dn:AV)(us:Int):List AV:=[mv,.int .i64 l.what,.int .i64 l.words,.int .i64 l.n,.int .i64 l.k,wv,st,dn,.int .i64 us]
def pW(w:Nat):AV:=.ptr w 0
def iW(w:Nat):AV:=.iface 168 (.ptr w 0)
theorem ago(bs bp i:Nat)(s:Sy)(l:Lay)(mv wv st dn:AV)(us:Int)(τ:Hp)(hf:Fit s)(he:cP s l.k=0)(hL:ir s l.k=l)(h1:(i:Int)<l.k):ACalls Tryz.prog 99 [.int .i64 i,.ptr bs 0,.ptr bp 0] ((bs,aV s)::(bp,dg mv l wv st dn us)::τ) (fun r σ'=>∃w,r=.ptr w 0∧σ'=WB s l i w 0 .ai [] oP++((bs,aV s)::(bp,dg mv l wv st dn us)::τ)):=by
 refine au Tryz.func99 ?_
 refine aa 0 ?_
 refine aa 1 ?_
 (refine .mk [] _ (agu s l i _ hf he hL (by omega) h1) ?_;rintro _ _ ⟨w,rfl,rfl⟩)
 exact .done ⟨w,rfl,rfl⟩
theorem agn(bp lw i n:Nat)(L:List Nat)(l:Lay)(mv st dn:AV)(us:Int)(τ:Hp)(hl:L.length=n)(hi:i<n):ACalls Tryz.prog 103 [.int .i64 i,.ptr bp 0] ((bp,dg mv l (.af lw 0 n 1) st dn us)::(lw,L.map pW)::τ) (aB (iW (L.getD i 0)) ((bp,dg mv l (.af lw 0 n 1) st dn us)::(lw,L.map pW)::τ)):=by
 have hg:(L.map pW)[0+((i:Int)).toNat*1]?=some (.ptr (L.getD i 0) 0):=by
  rw[bO,er,dM,fm,bj (by omega),aW,bj (by omega)];rfl
 refine au Tryz.func103 ?_
 refine aa 0 ?_
 refine aK ?_
 refine aZ 1 rfl (iV rfl hg) ?_
 exact .done ⟨rfl,rfl⟩
def cW(L:List Nat):List (Nat×Nat):=(List.range L.length).zip L
def ji:WZ:=⟨0,.ai,[],oP,trivial⟩
theorem Da(L:List Nat):∀i (h:i<(cW L).length),(cW L)[i].1=i:=fun i h=>by simp[cW]
theorem C9(L:List Nat):(cW L).length=L.length:=by simp[cW]
theorem acb(L:List Nat):(cW L).map (fun y=>AV.iface 168 (.ptr y.2 0))=L.map iW:=by
 unfold cW
 have:(fun y:Nat×Nat=>AV.iface 168 (.ptr y.2 0))=iW ∘ Prod.snd:=rfl
 rw[this,← List.map_map,List.map_snd_zip (by simp)]
theorem ab3(s:Sy)(l:Lay)(L:List Nat)(w:Nat):eo s l (cW (L++[w])) (List.replicate (L++[w]).length ji)=eo s l (cW L) (List.replicate L.length ji)++WB s l L.length w 0 .ai [] oP:=by
 have e1:cW (L++[w])=cW L++[(L.length,w)]:=by
  unfold cW
  rw[List.length_append,List.length_singleton,List.range_succ,List.zip_append (by simp)];rfl
 have e2:List.replicate (L++[w]).length ji=List.replicate L.length ji++[ji]:=by
  rw[bV,td,List.replicate_succ']
 unfold eo
 rw[e1,e2,List.zip_append (by rw[gG,C9]),yj]
 rfl
end Go.Proofs.YtnikdflhefijbaaGreat
namespace Go.Proofs.YtnikdflhefijbaaGreat
set_option maxRecDepth 100000
set_option maxHeartbeats 4000000
namespace SX
structure AP where
 n:Nat
 W:Nat
 k:Nat
 nx:Nat→List Nat
 jw:Int→Int→Int
 out:Nat→List Int→List Int
 ok:Nat→Int→Prop
 DW:∀{v u},v<n→u∈nx v→u<n
 idem:∀{i x},ok i x→jw x x=x
 comm:∀{i x y},ok i x→ok i y→jw x y=jw y x
 assoc:∀{i x y z},ok i x→ok i y→ok i z→jw (jw x y) z=jw x (jw y z)
 Oa:∀{i x y},ok i x→ok i y→ok i (jw x y)
 H5:∀{v y},v<n→y.length=W→(∀i,i<W→ok i (y.getD i 0))→(out v y).length=W∧∀i,i<W→ok i ((out v y).getD i 0)
 mono:∀{v y z},v<n→y.length=W→z.length=W→(∀i,i<W→ok i (y.getD i 0))→(∀i,i<W→ok i (z.getD i 0))→(∀i,i<W→jw (y.getD i 0) (z.getD i 0)=z.getD i 0)→∀i,i<W→jw ((out v y).getD i 0) ((out v z).getD i 0)=(out v z).getD i 0
inductive Ph where
 |idle (d a:Nat)
 |held (v:Nat)
 |clear (v:Nat)
 |read (v:Nat) (y:List Int)
 |join (v:Nat) (o:List Int) (u:Nat) (r:List Nat) (at_:Nat) (ld:Option Int) (ch:Bool)
 |take (v:Nat) (o:List Int) (u:Nat) (r:List Nat)
 |add (v:Nat) (o:List Int) (u:Nat) (r:List Nat)
 |push (v:Nat) (o:List Int) (u:Nat) (r:List Nat) (a:Nat)
 |dW (v:Nat)
 |done
structure AS where
 cell:Nat→Nat→Int
 flag:Nat→Bool
 aF:Nat
 dq:List (List Nat)
 ph:List Ph
 ev:Nat
 jo:Nat
def fW(v:Nat)(o:List Int):List Nat→Ph
 | []=>.dW v
 |u::r=>.join v o u r 0 none false
def mM(A:AP)(c:Nat→Nat→Int)(v:Nat):List Int:=(List.range A.W).map (c v)
def eN(c:Nat→Nat→Int)(v i:Nat)(x:Int):Nat→Nat→Int:=fun v' i'=>if v'=v∧i'=i then x else c v' i'
def fh(A:AP)(v:Nat)(o:List Int)(u:Nat)(r:List Nat)(at_:Nat)(ch:Bool):Ph×Nat:=
 if at_+1<A.W then (.join v o u r (at_+1) none ch,0) else if ch=true then (.take v o u r,1) else (fW v o r,0)
inductive Tr(A:AP)(S:AS)(i:Nat):AS→Prop where
 |stay (h:S.ph[i]?=some .done∨S.ph[i]?=none):Tr A S i S
 |zl (a:Nat) (h:S.ph[i]?=some (.idle 0 a)) (ha:a<5):Tr A S i { S with ph:=S.ph.set i (.idle 0 (a+1)) }
 |zm (a:Nat) (h:S.ph[i]?=some (.idle 0 a)) (hd:S.dq[i]?=some []):Tr A S i { S with ph:=S.ph.set i (.idle (if A.k<2 then 2 else 1) 0) }
 |pop (v:Nat) (c:List Nat) (a:Nat) (h:S.ph[i]?=some (.idle 0 a)) (hd:S.dq[i]?=some (c++[v])):Tr A S i { S with dq:=S.dq.set i c,ph:=S.ph.set i (.clear v) }
 |cas (v:Nat) (a:Nat) (h:S.ph[i]?=some (.idle 0 a)) (hd:S.dq[i]?=some [v]):Tr A S i { S with dq:=S.dq.set i [],ph:=S.ph.set i (.held v) }
 |zT (v:Nat) (h:S.ph[i]?=some (.held v)):Tr A S i { S with ph:=S.ph.set i (.clear v) }
 |yT (a:Nat) (h:S.ph[i]?=some (.idle 1 a)) (ha:a<3):Tr A S i { S with ph:=S.ph.set i (.idle 1 (a+1)) }
 |yU (a:Nat) (h:S.ph[i]?=some (.idle 1 a)):Tr A S i { S with ph:=S.ph.set i (.idle 2 0) }
 |cx (j v:Nat) (c:List Nat) (a:Nat) (h:S.ph[i]?=some (.idle 1 a)) (hd:S.dq[j]?=some (v::c)):Tr A S i { S with dq:=S.dq.set j c,ph:=S.ph.set i (.clear v) }
 |ask (h:S.ph[i]?=some (.idle 2 0)) (hc:S.aF≠0):Tr A S i { S with ph:=S.ph.set i (.idle (if A.k<2 then 0 else 1) 0) }
 |clear (v:Nat) (h:S.ph[i]?=some (.clear v)):Tr A S i { S with flag:=fun z=>if z=v then false else S.flag z,ph:=S.ph.set i (.read v []) }
 |y4 (v:Nat) (y:List Int) (h:S.ph[i]?=some (.read v y)) (hy:y.length+1<A.W):Tr A S i { S with ph:=S.ph.set i (.read v (y++[S.cell v y.length])) }
 |y5 (v:Nat) (y y':List Int) (h:S.ph[i]?=some (.read v y)) (hy:(y.length+1=A.W∧y'=y++[S.cell v y.length])∨(A.W=0∧y'=[])):Tr A S i { S with ph:=S.ph.set i (fW v (A.out v y') (A.nx v)),ev:=S.ev+1 }
 |load (v:Nat) (o:List Int) (u:Nat) (r:List Nat) (at_:Nat) (ch:Bool) (h:S.ph[i]?=some (.join v o u r at_ none ch)) (ha:at_<A.W) (hx:A.jw (S.cell u at_) (o.getD at_ 0)≠S.cell u at_):Tr A S i { S with ph:=S.ph.set i (.join v o u r at_ (some (S.cell u at_)) ch) }
 |same (v:Nat) (o:List Int) (u:Nat) (r:List Nat) (at_:Nat) (ch:Bool) (h:S.ph[i]?=some (.join v o u r at_ none ch)) (ha:at_<A.W) (hx:A.jw (S.cell u at_) (o.getD at_ 0)=S.cell u at_):Tr A S i { S with ph:=S.ph.set i (fh A v o u r at_ ch).1,jo:=S.jo+(fh A v o u r at_ ch).2 }
 |lost (v:Nat) (o:List Int) (u:Nat) (r:List Nat) (at_:Nat) (ch:Bool) (x:Int) (h:S.ph[i]?=some (.join v o u r at_ (some x) ch)) (ha:at_<A.W) (hx:S.cell u at_≠x):Tr A S i { S with ph:=S.ph.set i (.join v o u r at_ none ch) }
 |zB (v:Nat) (o:List Int) (u:Nat) (r:List Nat) (at_:Nat) (ch:Bool) (h:S.ph[i]?=some (.join v o u r at_ (some (S.cell u at_)) ch)) (ha:at_<A.W) (hx:A.jw (S.cell u at_) (o.getD at_ 0)≠S.cell u at_):Tr A S i { S with cell:=eN S.cell u at_ (A.jw (S.cell u at_) (o.getD at_ 0)),ph:=S.ph.set i (fh A v o u r at_ true).1,jo:=S.jo+(fh A v o u r at_ true).2 }
 |none (v:Nat) (o:List Int) (u:Nat) (r:List Nat) (h:S.ph[i]?=some (.join v o u r 0 none false)) (ha:A.W=0):Tr A S i { S with ph:=S.ph.set i (fW v o r) }
 |flag (v:Nat) (o:List Int) (u:Nat) (r:List Nat) (h:S.ph[i]?=some (.take v o u r)) (hf:S.flag u=false):Tr A S i { S with flag:=fun z=>if z=u then true else S.flag z,ph:=S.ph.set i (.add v o u r) }
 |zp (v:Nat) (o:List Int) (u:Nat) (r:List Nat) (h:S.ph[i]?=some (.take v o u r)) (hf:S.flag u=true):Tr A S i { S with ph:=S.ph.set i (fW v o r) }
 |add (v:Nat) (o:List Int) (u:Nat) (r:List Nat) (h:S.ph[i]?=some (.add v o u r)):Tr A S i { S with aF:=S.aF+1,ph:=S.ph.set i (.push v o u r 0) }
 |y6 (v:Nat) (o:List Int) (u:Nat) (r:List Nat) (a:Nat) (h:S.ph[i]?=some (.push v o u r a)) (ha:a<3):Tr A S i { S with ph:=S.ph.set i (.push v o u r (a+1)) }
 |push (v:Nat) (o:List Int) (u:Nat) (r:List Nat) (c:List Nat) (h:S.ph[i]?=some (.push v o u r 3)) (hd:S.dq[i]?=some c):Tr A S i { S with dq:=S.dq.set i (c++[u]),ph:=S.ph.set i (fW v o r) }
 |dW (v:Nat) (h:S.ph[i]?=some (.dW v)):Tr A S i { S with aF:=S.aF-1,ph:=S.ph.set i (.idle 0 0) }
 |zj (h:S.ph[i]?=some (.idle 2 0)) (hc:S.aF=0):Tr A S i { S with ph:=S.ph.set i .done }
def aI{α:Type}(f:α→Nat)(l:List α):Nat:=(l.map f).sum
theorem fK{α:Type}(f:α→Nat):∀(l:List α) (i:Nat) (x y:α),l[i]?=some x→aI f (l.set i y)+f x=aI f l+f y
 |a::l,0,x,y,h=>by
  simp at h;subst h
  show f y+aI f l+f a=f a+aI f l+f y
  omega
 |a::l,i+1,x,y,h=>by
  have:=fK f l i x y (by simpa using h)
  show f a+aI f (l.set i y)+f x=f a+aI f l+f y
  omega
theorem Dl{α:Type}(f:α→Nat):∀(l:List α) (i:Nat) (x:α),l[i]?=some x→f x≤aI f l
 |a::l,0,x,h=>by
  simp at h;subst h
  show f a≤f a+aI f l
  omega
 |a::l,i+1,x,h=>by
  have:=Dl f l i x (by simpa using h)
  show f x≤f a+aI f l
  omega
def ku:Ph→List Nat
 |.held v | .clear v=>[v]
 |.add _ _ u _ | .push _ _ u _ _=>[u]
 |_=>[]
def iM(z:Nat)(p:Ph):Nat:=(ku p).count z
def tok(S:AS)(v:Nat):Nat:=aI (fun l=>l.count v) S.dq+aI (iM v) S.ph
def cw:Ph→Nat
 |.idle _ _ | .done=>0
 |.push .. => 2
 |_=>1
def nodes:Ph→List Nat
 |.idle _ _ | .done=>[]
 |.held v | .clear v | .read v _ | .dW v=>[v]
 |.join v _ u r _ _ _ | .take v _ u r | .add v _ u r | .push v _ u r _=>v::u::r
structure TI(A:AP)(S:AS):Prop where
 tok:∀v,tok S v=if S.flag v then 1 else 0
 aF:S.aF=aI List.length S.dq+aI cw S.ph
 ng:∀c∈S.dq,∀v∈c,v<A.n
 rW:∀p∈S.ph,∀v∈nodes p,v<A.n
theorem Dy(v:Nat)(o:List Int)(r:List Nat):cw (fW v o r)=1:=by cases r <;> rfl
theorem Dd(v:Nat)(o:List Int)(r:List Nat):ku (fW v o r)=[]:=by cases r <;> rfl
theorem CJ{v:Nat}{o:List Int}{r:List Nat}{z:Nat}(h:z∈nodes (fW v o r)):z=v∨z∈r:=by
 cases r with
 |nil=>simp[fW,nodes]at h;exact .inl h
 |cons u r=>simp[fW,nodes]at h;simp;omega
theorem S8(A:AP)(v:Nat)(o:List Int)(u:Nat)(r:List Nat)(at_:Nat)(ch:Bool):cw (fh A v o u r at_ ch).1=1:=by
 unfold fh;split
 ·rfl
 ·split
  ·rfl
  ·exact Dy _ _ _
theorem RH(A:AP)(v:Nat)(o:List Int)(u:Nat)(r:List Nat)(at_:Nat)(ch:Bool):ku (fh A v o u r at_ ch).1=[]:=by
 unfold fh;split
 ·rfl
 ·split
  ·rfl
  ·exact Dd _ _ _
theorem Qm{A:AP}{v:Nat}{o:List Int}{u:Nat}{r:List Nat}{at_:Nat}{ch:Bool}{z:Nat}(h:z∈nodes (fh A v o u r at_ ch).1):z∈v::u::r:=by
 revert h
 unfold fh;split
 ·exact id
 ·split
  ·exact id
  ·intro h
   rcases CJ h with h | h <;> simp[h]
theorem TI.ph{A:AP}{S:AS}(h:TI A S){i:Nat}{p q:Ph}(hi:S.ph[i]?=some p)(ht:ku q=ku p)(hc:cw q=cw p)(hn:∀z∈nodes q,z<A.n){S':AS}(e1:S'.flag=S.flag)(e2:S'.aF=S.aF)(e3:S'.dq=S.dq)(e4:S'.ph=S.ph.set i q):TI A S':=by
 refine⟨fun v=>?_,?_,?_,?_⟩
 ·have:=fK (iM v) S.ph i p q hi
  have e0:iM v q=iM v p:=by unfold iM;rw[ht]
  have h1:=h.tok v
  unfold SX.tok at h1 ⊢
  rw[e1,e3,e4]
  omega
 ·have:=fK cw S.ph i p q hi
  have h1:=h.aF
  rw[e2,e3,e4]
  omega
 ·rw[e3];exact h.ng
 ·rw[e4]
  intro x hx v hv
  rcases q9 hx with hx | rfl
  ·exact h.rW x hx v hv
  ·exact hn v hv
theorem TI.at_{A:AP}{S:AS}(h:TI A S){i:Nat}{p:Ph}(hi:S.ph[i]?=some p){v:Nat}(hv:v∈nodes p):v<A.n:=h.rW p (cu hi) v hv
theorem wU{S:AS}{A:AP}(h:∀p∈S.ph,∀v∈nodes p,v<A.n){i:Nat}{q:Ph}(hn:∀z∈nodes q,z<A.n):∀p∈S.ph.set i q,∀v∈nodes p,v<A.n:=by
 intro x hx v hv
 rcases q9 hx with hx | rfl
 ·exact h x hx v hv
 ·exact hn v hv
theorem Gq{S:AS}{A:AP}(h:∀c∈S.dq,∀v∈c,v<A.n){i:Nat}{c:List Nat}(hn:∀z∈c,z<A.n):∀c'∈S.dq.set i c,∀v∈c',v<A.n:=by
 intro x hx v hv
 rcases q9 hx with hx | rfl
 ·exact h x hx v hv
 ·exact hn v hv
theorem AR(a b:Nat):[a].count b=if a=b then 1 else 0:=by
 rw[List.count_singleton]
 by_cases h:a=b <;> simp[h]
theorem TI.step{A:AP}{S S':AS}{i:Nat}(h:TI A S)(hs:Tr A S i S'):TI A S':=by
 cases hs with
 |stay=>exact h
 |zl a hp ha=>exact h.ph (q:=.idle 0 (a+1)) hp rfl rfl (by simp[nodes]) rfl rfl rfl rfl
 |zm a hp hd=>exact h.ph (q:=.idle (if A.k<2 then 2 else 1) 0) hp rfl rfl (by simp[nodes]) rfl rfl rfl rfl
 |yT a hp ha=>exact h.ph (q:=.idle 1 (a+1)) hp rfl rfl (by simp[nodes]) rfl rfl rfl rfl
 |yU a hp=>exact h.ph (q:=.idle 2 0) hp rfl rfl (by simp[nodes]) rfl rfl rfl rfl
 |ask hp hc=>exact h.ph (q:=.idle (if A.k<2 then 0 else 1) 0) hp rfl rfl (by simp[nodes]) rfl rfl rfl rfl
 |y6 v o u r a hp ha=>exact h.ph (q:=.push v o u r (a+1)) hp rfl rfl (fun z hz=>h.at_ hp hz) rfl rfl rfl rfl
 |pop v c a hp hd=>
  have hv:v<A.n:=h.ng _ (List.mem_of_getElem? hd) v (by simp)
  refine⟨fun z=>?_,?_,Gq h.ng (fun z hz=>h.ng _ (List.mem_of_getElem? hd) z (by simp[hz])),wU h.rW (by simpa [nodes]using hv)⟩
  ·have k1:=fK (iM z) S.ph i _ (.clear v) hp
   have k2:=fK (fun l=>l.count z) S.dq i _ c hd
   have k3:=h.tok z
   unfold SX.tok at k3 ⊢
   simp only[iM,ku,JW,AR,FE]at k1 k2
   show aI _ (S.dq.set i c)+aI _ (S.ph.set i (.clear v))=if S.flag z then 1 else 0
   omega
  ·have k1:=fK cw S.ph i _ (.clear v) hp
   have k2:=fK List.length S.dq i _ c hd
   have k3:=h.aF
   simp only[cw,bV,td]at k1 k2
   show S.aF=aI List.length (S.dq.set i c)+aI cw (S.ph.set i (.clear v))
   omega
 |cas v a hp hd=>
  have hv:v<A.n:=h.ng _ (List.mem_of_getElem? hd) v (by simp)
  refine⟨fun z=>?_,?_,Gq h.ng (fun z hz=>by cases hz),wU h.rW (by simpa [nodes]using hv)⟩
  ·have k1:=fK (iM z) S.ph i _ (.held v) hp
   have k2:=fK (fun l=>l.count z) S.dq i _ [] hd
   have k3:=h.tok z
   unfold SX.tok at k3 ⊢
   simp only[iM,ku,AR,FE]at k1 k2
   show aI _ (S.dq.set i [])+aI _ (S.ph.set i (.held v))=if S.flag z then 1 else 0
   omega
  ·have k1:=fK cw S.ph i _ (.held v) hp
   have k2:=fK List.length S.dq i _ [] hd
   have k3:=h.aF
   simp only[cw,List.length_nil,td]at k1 k2
   show S.aF=aI List.length (S.dq.set i [])+aI cw (S.ph.set i (.held v))
   omega
 |zT v hp=>exact h.ph (q:=.clear v) hp rfl rfl (by have:=h.at_ hp (v:=v) (by simp[nodes]);simpa [nodes]using this) rfl rfl rfl rfl
 |cx j v c a hp hd=>
  have hv:v<A.n:=h.ng _ (List.mem_of_getElem? hd) v (by simp)
  refine⟨fun z=>?_,?_,Gq h.ng (fun z hz=>h.ng _ (List.mem_of_getElem? hd) z (by simp[hz])),wU h.rW (by simpa [nodes]using hv)⟩
  ·have k1:=fK (iM z) S.ph i _ (.clear v) hp
   have k2:=fK (fun l=>l.count z) S.dq j _ c hd
   have k3:=h.tok z
   unfold SX.tok at k3 ⊢
   have k4:(v::c).count z=[v].count z+c.count z:=by rw[← JW];rfl
   simp only[iM,ku,AR,FE,k4]at k1 k2
   show aI _ (S.dq.set j c)+aI _ (S.ph.set i (.clear v))=if S.flag z then 1 else 0
   omega
  ·have k1:=fK cw S.ph i _ (.clear v) hp
   have k2:=fK List.length S.dq j _ c hd
   have k3:=h.aF
   simp only[cw,gq]at k1 k2
   show S.aF=aI List.length (S.dq.set j c)+aI cw (S.ph.set i (.clear v))
   omega
 |clear v hp=>
  have hv:=h.at_ hp (v:=v) (by simp[nodes])
  refine⟨fun z=>?_,?_,h.ng,wU h.rW (by simpa [nodes]using hv)⟩
  ·have k1:=fK (iM z) S.ph i _ (.read v []) hp
   have k3:=h.tok z
   have k5:=Dl (iM z) S.ph i _ hp
   unfold SX.tok at k3 ⊢
   simp only[iM,ku,AR,FE]at k1 k5
   show aI _ S.dq+aI _ (S.ph.set i (.read v []))=if (if z=v then false else S.flag z) then 1 else 0
   by_cases hz:v=z
   ·subst hz
    simp only[if_true]at k1 k5 ⊢
    split at k3 <;> simp <;> omega
   ·have ez:(if z=v then false else S.flag z)=S.flag z:=ag fun e=>hz e.symm
    rw[ez]
    simp only[ag hz]at k1
    omega
  ·have k1:=fK cw S.ph i _ (.read v []) hp
   have k3:=h.aF
   simp only[cw]at k1
   show S.aF=aI List.length S.dq+aI cw (S.ph.set i (.read v []))
   omega
 |y4 v y hp hy=>exact h.ph (q:=.read v (y++[S.cell v y.length])) hp rfl rfl (by have:=h.at_ hp (v:=v) (by simp[nodes]);simpa [nodes]using this) rfl rfl rfl rfl
 |y5 v y y' hp hy=>
  have hv:=h.at_ hp (v:=v) (by simp[nodes])
  exact h.ph (q:=fW v (A.out v y') (A.nx v)) hp (Dd _ _ _) (Dy _ _ _) (fun z hz=>by
   rcases CJ hz with rfl | hz
   ·exact hv
   ·exact A.DW hv hz) rfl rfl rfl rfl
 |load v o u r at_ ch hp ha hx=>exact h.ph (q:=.join v o u r at_ (some (S.cell u at_)) ch) hp rfl rfl (fun z hz=>h.at_ hp hz) rfl rfl rfl rfl
 |same v o u r at_ ch hp ha hx=>exact h.ph (q:=(fh A v o u r at_ ch).1) hp (RH ..) (S8 ..) (fun z hz=>h.at_ hp (Qm hz)) rfl rfl rfl rfl
 |lost v o u r at_ ch x hp ha hx=>exact h.ph (q:=.join v o u r at_ none ch) hp rfl rfl (fun z hz=>h.at_ hp hz) rfl rfl rfl rfl
 |zB v o u r at_ ch hp ha hx=>exact h.ph (q:=(fh A v o u r at_ true).1) hp (RH ..) (S8 ..) (fun z hz=>h.at_ hp (Qm hz)) rfl rfl rfl rfl
 |none v o u r hp ha=>exact h.ph (q:=fW v o r) hp (Dd _ _ _) (Dy _ _ _) (fun z hz=>h.at_ hp (by rcases CJ hz with hz | hz <;> simp[nodes,hz])) rfl rfl rfl rfl
 |flag v o u r hp hf=>
  refine⟨fun z=>?_,?_,h.ng,wU h.rW (fun z hz=>h.at_ hp hz)⟩
  ·have k1:=fK (iM z) S.ph i _ (.add v o u r) hp
   have k3:=h.tok z
   unfold SX.tok at k3 ⊢
   simp only[iM,ku,AR,FE]at k1
   show aI _ S.dq+aI _ (S.ph.set i (.add v o u r))=if (if z=u then true else S.flag z) then 1 else 0
   by_cases hz:u=z
   ·subst hz
    rw[hf]at k3
    simp at k1 k3 ⊢
    omega
   ·have ez:(if z=u then true else S.flag z)=S.flag z:=ag fun e=>hz e.symm
    rw[ez]
    simp only[ag hz]at k1
    omega
  ·have k1:=fK cw S.ph i _ (.add v o u r) hp
   have k3:=h.aF
   simp only[cw]at k1
   show S.aF=aI List.length S.dq+aI cw (S.ph.set i (.add v o u r))
   omega
 |zp v o u r hp hf=>exact h.ph (q:=fW v o r) hp (Dd _ _ _) (Dy _ _ _) (fun z hz=>h.at_ hp (by rcases CJ hz with hz | hz <;> simp[nodes,hz])) rfl rfl rfl rfl
 |add v o u r hp=>
  refine⟨fun z=>?_,?_,h.ng,wU h.rW (fun z hz=>h.at_ hp hz)⟩
  ·have k1:=fK (iM z) S.ph i _ (.push v o u r 0) hp
   have k3:=h.tok z
   unfold SX.tok at k3 ⊢
   simp only[iM,ku]at k1
   show aI _ S.dq+aI _ (S.ph.set i (.push v o u r 0))=if S.flag z then 1 else 0
   omega
  ·have k1:=fK cw S.ph i _ (.push v o u r 0) hp
   have k3:=h.aF
   simp only[cw]at k1
   show S.aF+1=aI List.length S.dq+aI cw (S.ph.set i (.push v o u r 0))
   omega
 |push v o u r c hp hd=>
  have hu:=h.at_ hp (v:=u) (by simp[nodes])
  refine⟨fun z=>?_,?_,Gq h.ng (fun z hz=>?_),wU h.rW (fun z hz=>h.at_ hp (by rcases CJ hz with hz | hz <;> simp[nodes,hz]))⟩
  ·have k1:=fK (iM z) S.ph i _ (fW v o r) hp
   have k2:=fK (fun l=>l.count z) S.dq i _ (c++[u]) hd
   have k3:=h.tok z
   unfold SX.tok at k3 ⊢
   have e0:iM z (fW v o r)=0:=by unfold iM;rw[Dd];rfl
   rw[e0]at k1
   simp only[iM,ku,JW,AR]at k1 k2
   show aI _ (S.dq.set i (c++[u]))+aI _ (S.ph.set i (fW v o r))=if S.flag z then 1 else 0
   omega
  ·have k1:=fK cw S.ph i _ (fW v o r) hp
   have k2:=fK List.length S.dq i _ (c++[u]) hd
   have k3:=h.aF
   rw[Dy]at k1
   simp only[cw,bV,td]at k1 k2
   show S.aF=aI List.length (S.dq.set i (c++[u]))+aI cw (S.ph.set i (fW v o r))
   omega
  ·rcases bR.1 hz with hz | hz
   ·exact h.ng _ (cu hd) z hz
   ·rw[bh.1 hz];exact hu
 |dW v hp=>
  refine⟨fun z=>?_,?_,h.ng,wU h.rW (by simp[nodes])⟩
  ·have k1:=fK (iM z) S.ph i _ (.idle 0 0) hp
   have k3:=h.tok z
   unfold SX.tok at k3 ⊢
   simp only[iM,ku]at k1
   show aI _ S.dq+aI _ (S.ph.set i (.idle 0 0))=if S.flag z then 1 else 0
   omega
  ·have k1:=fK cw S.ph i _ (.idle 0 0) hp
   have k3:=h.aF
   simp only[cw]at k1
   show S.aF-1=aI List.length S.dq+aI cw (S.ph.set i (.idle 0 0))
   omega
 |zj hp hc=>exact h.ph (q:=.done) hp rfl rfl (by simp[nodes]) rfl rfl rfl rfl
end SX
end Go.Proofs.YtnikdflhefijbaaGreat
namespace Go.Proofs.YtnikdflhefijbaaGreat
set_option maxRecDepth 100000
set_option maxHeartbeats 4000000
namespace SX
variable {A:AP}
theorem le_trans{i:Nat}{x y z:Int}(hx:A.ok i x)(hy:A.ok i y)(hz:A.ok i z)(h1:A.jw x y=y)(h2:A.jw y z=z):A.jw x z=z:=by
 rw[← h2,← A.assoc hx hy hz,h1]
theorem Mj{i:Nat}{x y:Int}(hx:A.ok i x)(hy:A.ok i y):A.jw x (A.jw x y)=A.jw x y:=by
 rw[← A.assoc hx hx hy,A.idem hx]
theorem S1{i:Nat}{x y:Int}(hx:A.ok i x)(hy:A.ok i y):A.jw y (A.jw x y)=A.jw x y:=by
 rw[A.comm hx hy,← A.assoc hy hy hx,A.idem hy]
theorem aef{i:Nat}{x y z:Int}(hx:A.ok i x)(hy:A.ok i y)(hz:A.ok i z)(h1:A.jw x z=z)(h2:A.jw y z=z):A.jw (A.jw x y) z=z:=by
 rw[A.assoc hx hy hz,h2,h1]
theorem GM(c:Nat→Nat→Int)(v:Nat):(mM A c v).length=A.W:=by simp[mM]
theorem CZ(c:Nat→Nat→Int)(v:Nat){i:Nat}(h:i<A.W):(mM A c v).getD i 0=c v i:=by
 unfold mM
 rw[aW,fm,wI h];rfl
theorem AX(c:Nat→Nat→Int)(v i:Nat)(x:Int):eN c v i x v i=x:=by simp[eN]
theorem uX{c:Nat→Nat→Int}{v i:Nat}{x:Int}{v' i':Nat}(h:¬(v'=v∧i'=i)):eN c v i x v' i'=c v' i':=by simp only[eN,ag h]
theorem aaD{c:Nat→Nat→Int}{v i:Nat}{x:Int}{v':Nat}(h:v'≠v):mM A (eN c v i x) v'=mM A c v':=by
 unfold mM
 refine yi fun j _=>?_
 exact uX fun e=>h e.1
structure Eg(A:AP)(b:Nat→Nat→Int)(v:Nat)(o:List Int):Prop where
 len:o.length=A.W
 ok:∀i,i<A.W→A.ok i (o.getD i 0)
 low:∀u∈A.nx v,∀i,i<A.W→A.jw (o.getD i 0) (b u i)=b u i
def vO(A:AP)(b cell:Nat→Nat→Int):Ph→Prop
 |.read v y=>(y.length<A.W∨(A.W=0∧y=[]))∧∀i,i<y.length→A.ok i (y.getD i 0)∧A.jw (y.getD i 0) (cell v i)=cell v i
 |.join v o u r at_ ld _=>Eg A b v o∧u∈A.nx v∧(∀z∈r,z∈A.nx v)∧(∀i,i<at_→i<A.W→A.jw (o.getD i 0) (cell u i)=cell u i)∧(∀x,ld=some x→at_<A.W)
 |.take v o u r | .add v o u r | .push v o u r _=>Eg A b v o∧u∈A.nx v∧(∀z∈r,z∈A.nx v)∧(∀i,i<A.W→A.jw (o.getD i 0) (cell u i)=cell u i)
 |_=>True
structure Xj(A:AP)(b:Nat→Nat→Int):Prop where
 ok:∀v i,v<A.n→i<A.W→A.ok i (b v i)
 out:∀v,v<A.n→∀u∈A.nx v,∀i,i<A.W→A.jw ((A.out v (mM A b v)).getD i 0) (b u i)=b u i
structure VI(A:AP)(b:Nat→Nat→Int)(S:AS):Prop where
 ok:∀v i,v<A.n→i<A.W→A.ok i (S.cell v i)
 low:∀v i,v<A.n→i<A.W→A.jw (S.cell v i) (b v i)=b v i
 ph:∀p∈S.ph,vO A b S.cell p
theorem vO.ahx{b cell Bn:Nat→Nat→Int}{p:Ph}(h:vO A b cell p)(hn:∀v∈nodes p,v<A.n)(h0:∀v i,v<A.n→i<A.W→A.ok i (cell v i))(h1:∀v i,v<A.n→i<A.W→A.ok i (Bn v i))(h2:∀v i,v<A.n→i<A.W→A.jw (cell v i) (Bn v i)=Bn v i):vO A b Bn p:=by
 have key:∀{v:Nat} {o:List Int} {u:Nat} {m:Nat},Eg A b v o→u<A.n→(∀i,i<m→i<A.W→A.jw (o.getD i 0) (cell u i)=cell u i)→∀i,i<m→i<A.W→A.jw (o.getD i 0) (Bn u i)=Bn u i:=by
  intro v o u m ho hu hj i hi hw
  exact le_trans (ho.ok i hw) (h0 u i hu hw) (h1 u i hu hw) (hj i hi hw) (h2 u i hu hw)
 cases p with
 |read v y=>
  obtain⟨h3,h4⟩:=h
  refine⟨h3,fun i hi=>⟨(h4 i hi).1,?_⟩⟩
  have hw:i<A.W:=by (rcases h3 with h3 | ⟨_,rfl⟩);exact Fz hi h3;cases hi
  have hv:=hn v (by simp[nodes])
  exact le_trans (h4 i hi).1 (h0 v i hv hw) (h1 v i hv hw) (h4 i hi).2 (h2 v i hv hw)
 |join v o u r at_ ld ch=>
  obtain⟨h3,h4,h5,h6,h7⟩:=h
  exact⟨h3,h4,h5,key h3 (hn u (by simp[nodes])) h6,h7⟩
 |take v o u r=>
  obtain⟨h3,h4,h5,h6⟩:=h
  exact⟨h3,h4,h5,fun i hi=>key (m:=A.W) h3 (hn u (by simp[nodes])) (fun i _ hw=>h6 i hw) i hi hi⟩
 |add v o u r=>
  obtain⟨h3,h4,h5,h6⟩:=h
  exact⟨h3,h4,h5,fun i hi=>key (m:=A.W) h3 (hn u (by simp[nodes])) (fun i _ hw=>h6 i hw) i hi hi⟩
 |push v o u r a=>
  obtain⟨h3,h4,h5,h6⟩:=h
  exact⟨h3,h4,h5,fun i hi=>key (m:=A.W) h3 (hn u (by simp[nodes])) (fun i _ hw=>h6 i hw) i hi hi⟩
 |_=>trivial
theorem Dw{b cell:Nat→Nat→Int}{v:Nat}{o:List Int}{r:List Nat}(h:Eg A b v o)(hr:∀z∈r,z∈A.nx v):vO A b cell (fW v o r):=by
 cases r with
 |nil=>trivial
 |cons u r=>exact⟨h,hr u (by simp),fun z hz=>hr z (by simp[hz]),fun i hi=>absurd hi (Nat.not_lt_zero _),fun x hx=>by cases hx⟩
theorem S6{b cell:Nat→Nat→Int}{v:Nat}{o:List Int}{u:Nat}{r:List Nat}{at_:Nat}{ch:Bool}(h:Eg A b v o)(hu:u∈A.nx v)(hr:∀z∈r,z∈A.nx v)(hj:∀i,i<at_+1→i<A.W→A.jw (o.getD i 0) (cell u i)=cell u i):vO A b cell (fh A v o u r at_ ch).1:=by
 unfold fh
 split
 ·exact⟨h,hu,hr,hj,fun x hx=>by cases hx⟩
 ·split
  ·exact⟨h,hu,hr,fun i hi=>hj i (by omega) hi⟩
  ·exact Dw h hr
theorem GJ(y:List Int)(x:Int)(i:Nat):(y++[x]).getD i 0=if i<y.length then y.getD i 0 else if i=y.length then x else 0:=by
 simp only[aW]
 by_cases h:i<y.length
 ·rw[ah h,kh h]
 ·rw[ag h,iQ (by omega)]
  by_cases h2:i=y.length
  ·simp[h2]
  ·rw[if_neg h2,List.getElem?_eq_none (by simp;omega)];rfl
theorem VI.step{b:Nat→Nat→Int}{S S':AS}{i:Nat}(hb:Xj A b)(ht:TI A S)(h:VI A b S)(hs:Tr A S i S'):VI A b S'∧∀v j,v<A.n→j<A.W→A.jw (S.cell v j) (S'.cell v j)=S'.cell v j:=by
 have hrefl:∀v j,v<A.n→j<A.W→A.jw (S.cell v j) (S.cell v j)=S.cell v j:=fun v j hv hj=>A.idem (h.ok v j hv hj)
 have jN:∀{q:Ph} {S':AS},S'.cell=S.cell→S'.ph=S.ph.set i q→vO A b S.cell q→VI A b S'∧∀v j,v<A.n→j<A.W→A.jw (S.cell v j) (S'.cell v j)=S'.cell v j:=by
  intro q S' e1 e2 hq
  refine⟨⟨by rw[e1];exact h.ok,by rw[e1];exact h.low,?_⟩,by rw[e1];exact hrefl⟩
  rw[e1,e2]
  intro p hp
  rcases q9 hp with hp | rfl
  ·exact h.ph p hp
  ·exact hq
 have at_:∀{p:Ph},S.ph[i]?=some p→vO A b S.cell p:=fun hp=>h.ph _ (cu hp)
 cases hs with
 |stay=>exact⟨h,hrefl⟩
 |zl a hp ha=>exact jN rfl rfl trivial
 |zm a hp hd=>exact jN rfl rfl trivial
 |yT a hp ha=>exact jN rfl rfl trivial
 |yU a hp=>exact jN rfl rfl trivial
 |ask hp hc=>exact jN rfl rfl trivial
 |y6 v o u r a hp ha=>
  obtain⟨h1,h2,h3,h4⟩:=at_ hp
  exact jN rfl rfl ⟨h1,h2,h3,h4⟩
 |pop v c a hp hd=>exact jN rfl rfl trivial
 |cas v a hp hd=>exact jN rfl rfl trivial
 |zT v hp=>exact jN rfl rfl trivial
 |cx j v c a hp hd=>exact jN rfl rfl trivial
 |clear v hp=>exact jN rfl rfl ⟨(uD A.W).elim (fun h=>.inr ⟨h,rfl⟩) .inl,fun i hi=>by cases hi⟩
 |y4 v y hp hy=>
  obtain⟨h1,h2⟩:=at_ hp
  have hv:=ht.at_ hp (v:=v) (by simp[nodes])
  refine jN rfl rfl ⟨.inl (by simp;omega),fun j hj=>?_⟩
  simp at hj
  rw[GJ]
  by_cases ij:j<y.length
  ·rw[ah ij];exact h2 j ij
  ·have:j=y.length:=by omega
   subst this
   rw[ag (by omega),ah rfl]
   exact⟨h.ok v _ hv (by omega),hrefl v _ hv (by omega)⟩
 |y5 v y y' hp hy=>
  obtain⟨h1,h2⟩:=at_ hp
  have hv:=ht.at_ hp (v:=v) (by simp[nodes])
  have ui:y'.length=A.W∧∀j,j<A.W→A.ok j (y'.getD j 0)∧A.jw (y'.getD j 0) (S.cell v j)=S.cell v j:=by
   rcases hy with ⟨hl,rfl⟩ | ⟨hw,rfl⟩
   ·refine⟨by simpa using hl,fun j hj=>?_⟩
    rw[GJ]
    by_cases ij:j<y.length
    ·rw[ah ij];exact h2 j ij
    ·have:j=y.length:=by omega
     subst this
     rw[ag (by omega),ah rfl]
     exact⟨h.ok v _ hv (by omega),hrefl v _ hv (by omega)⟩
   ·exact⟨hw.symm,fun j hj=>by omega⟩
  obtain⟨k1,k2⟩:=A.H5 hv ui.1 fun j hj=>(ui.2 j hj).1
  have oX:=GM (A:=A) b v
  obtain⟨m1,m2⟩:=A.H5 hv oX fun j hj=>by rw[CZ b v hj];exact hb.ok v j hv hj
  have agX:=A.mono hv ui.1 oX (fun j hj=>(ui.2 j hj).1) (fun j hj=>by rw[CZ b v hj];exact hb.ok v j hv hj) fun j hj=>by
   rw[CZ b v hj]
   exact le_trans (ui.2 j hj).1 (h.ok v j hv hj) (hb.ok v j hv hj) (ui.2 j hj).2 (h.low v j hv hj)
  refine jN rfl rfl (Dw ⟨k1,k2,fun u hu j hj=>?_⟩ fun z hz=>hz)
  exact le_trans (k2 j hj) (m2 j hj) (hb.ok u j (A.DW hv hu) hj) (agX j hj) (hb.out v hv u hu j hj)
 |load v o u r a ch hp ha hx=>
  obtain⟨h1,h2,h3,h4,_⟩:=at_ hp
  exact jN rfl rfl ⟨h1,h2,h3,h4,fun _ _=>ha⟩
 |same v o u r a ch hp ha hx=>
  obtain⟨h1,h2,h3,h4,_⟩:=at_ hp
  have hu:=ht.at_ hp (v:=u) (by simp[nodes])
  refine jN rfl rfl (S6 h1 h2 h3 fun j hj hw=>?_)
  rcases Cl (Ch hj) with hj | rfl
  ·exact h4 j hj hw
  ·rw[A.comm (h1.ok j hw) (h.ok u j hu hw),hx]
 |lost v o u r a ch x hp ha hx=>
  obtain⟨h1,h2,h3,h4,_⟩:=at_ hp
  exact jN rfl rfl ⟨h1,h2,h3,h4,fun _ hx=>by cases hx⟩
 |zB v o u r a ch hp ha hx=>
  obtain⟨h1,h2,h3,h4,_⟩:=at_ hp
  have hu:=ht.at_ hp (v:=u) (by simp[nodes])
  have xW:=h1.ok a ha
  have oW:=h.ok u a hu ha
  have cd:∀v' j,v'<A.n→j<A.W→A.ok j (eN S.cell u a (A.jw (S.cell u a) (o.getD a 0)) v' j):=fun v' j oS hj=>by
   by_cases he:v'=u∧j=a
   ·obtain⟨rfl,rfl⟩:=he
    rw[AX];exact A.Oa oW xW
   ·rw[uX he];exact h.ok v' j oS hj
  have zc:∀v' j,v'<A.n→j<A.W→A.jw (S.cell v' j) (eN S.cell u a (A.jw (S.cell u a) (o.getD a 0)) v' j)=eN S.cell u a (A.jw (S.cell u a) (o.getD a 0)) v' j:=fun v' j oS hj=>by
   by_cases he:v'=u∧j=a
   ·obtain⟨rfl,rfl⟩:=he
    rw[AX];exact Mj oW xW
   ·rw[uX he];exact hrefl v' j oS hj
  refine⟨⟨cd,fun v' j oS hj=>?_,?_⟩,zc⟩
  ·show A.jw (eN S.cell u a (A.jw (S.cell u a) (o.getD a 0)) v' j) (b v' j)=b v' j
   by_cases he:v'=u∧j=a
   ·obtain⟨rfl,rfl⟩:=he
    rw[AX]
    exact aef oW xW (hb.ok _ _ hu ha) (h.low _ _ hu ha) (h1.low _ h2 _ ha)
   ·rw[uX he];exact h.low v' j oS hj
  ·intro p nP
   rcases q9 nP with nP | rfl
   ·exact (h.ph p nP).ahx (ht.rW p nP) h.ok cd zc
   ·refine S6 h1 h2 h3 fun j hj hw=>?_
    show A.jw (o.getD j 0) (eN S.cell u a (A.jw (S.cell u a) (o.getD a 0)) u j)=eN S.cell u a (A.jw (S.cell u a) (o.getD a 0)) u j
    rcases Cl (Ch hj) with hj | rfl
    ·rw[uX (fun e=>by omega)];exact h4 j hj hw
    ·rw[AX];exact S1 oW xW
 |none v o u r hp ha=>
  obtain⟨h1,h2,h3,h4,_⟩:=at_ hp
  exact jN rfl rfl (Dw h1 h3)
 |flag v o u r hp hf=>
  obtain⟨h1,h2,h3,h4⟩:=at_ hp
  exact jN rfl rfl ⟨h1,h2,h3,h4⟩
 |zp v o u r hp hf=>
  obtain⟨h1,h2,h3,h4⟩:=at_ hp
  exact jN rfl rfl (Dw h1 h3)
 |add v o u r hp=>
  obtain⟨h1,h2,h3,h4⟩:=at_ hp
  exact jN rfl rfl ⟨h1,h2,h3,h4⟩
 |push v o u r c hp hd=>
  obtain⟨h1,h2,h3,h4⟩:=at_ hp
  exact jN rfl rfl (Dw h1 h3)
 |dW v hp=>exact jN rfl rfl trivial
 |zj hp hc=>exact jN rfl rfl trivial
end SX
end Go.Proofs.YtnikdflhefijbaaGreat
namespace Go.Proofs.YtnikdflhefijbaaGreat
set_option maxRecDepth 100000
set_option maxHeartbeats 4000000
namespace SX
variable {A:AP}
def H3(v:Nat):Ph→Prop
 |.join _ _ u _ _ _ ch=>u=v∧ch=true
 |.take _ _ u _=>u=v
 |_=>False
def xv(cell:Nat→Nat→Int)(v:Nat):Ph→Prop
 |.read z y=>z=v∧∀i,i<y.length→y.getD i 0=cell v i
 |_=>False
def BD(A:AP)(cell:Nat→Nat→Int)(v u:Nat):Ph→Prop
 |.join z o u' r _ _ _=>z=v∧o=A.out v (mM A cell v)∧(u=u'∨u∈r)
 |.take z o _ r | .add z o _ r | .push z o _ r _=>z=v∧o=A.out v (mM A cell v)∧u∈r
 |_=>False
def EW(A:AP)(cell:Nat→Nat→Int)(v u:Nat):Prop:=∀i,i<A.W→A.jw ((A.out v (mM A cell v)).getD i 0) (cell u i)=cell u i
def yo(A:AP)(S:AS)(v:Nat):Prop:=
 S.flag v=true∨(∃p∈S.ph,H3 v p)∨(∃p∈S.ph,xv S.cell v p)∨∀u∈A.nx v,EW A S.cell v u∨∃p∈S.ph,BD A S.cell v u p
theorem QU{α:Type}{l:List α}{i:Nat}{p q x:α}(hi:l[i]?=some p)(hx:x∈l):x=p∨x∈l.set i q:=by
 obtain⟨j,hj⟩:=sh.1 hx
 by_cases h:i=j
 ·subst h;rw[hi]at hj;exact .inl (Option.some.inj hj).symm
 ·right
  refine sh.2 ⟨j,?_⟩
  rw[e9,ag h];exact hj
theorem P4{α:Type}{l:List α}{i:Nat}{p q:α}(hi:l[i]?=some p):q∈l.set i q:=by
 refine sh.2 ⟨i,?_⟩
 rw[e9,ah rfl,ah (ck.1 hi).1]
theorem yo.keep{S S':AS}{i:Nat}{p q:Ph}{v:Nat}(h:yo A S v)(hi:S.ph[i]?=some p)(e1:S'.cell=S.cell)(e2:S'.ph=S.ph.set i q)
  (hf:S.flag v=true→S'.flag v=true∨xv S.cell v q) (hp:H3 v p→H3 v q∨S'.flag v=true) (hr:xv S.cell v p→xv S.cell v q∨∀u∈A.nx v,BD A S.cell v u q) (hc:∀u,BD A S.cell v u p→BD A S.cell v u q∨EW A S.cell v u):yo A S' v:=by
 have hq:q∈S'.ph:=by rw[e2];exact P4 hi
 have hm:∀x∈S.ph,x=p∨x∈S'.ph:=fun x hx=>by rw[e2];exact QU hi hx
 rcases h with h | ⟨x,hx,h⟩ | ⟨x,hx,h⟩ | h
 ·rcases hf h with h | h
  ·exact .inl h
  ·exact .inr (.inr (.inl ⟨q,hq,by rw[e1];exact h⟩))
 ·rcases hm x hx with rfl | hx
  ·rcases hp h with h | h
   ·exact .inr (.inl ⟨q,hq,h⟩)
   ·exact .inl h
  ·exact .inr (.inl ⟨x,hx,h⟩)
 ·rcases hm x hx with rfl | hx
  ·rcases hr h with h | h
   ·exact .inr (.inr (.inl ⟨q,hq,by rw[e1];exact h⟩))
   ·exact .inr (.inr (.inr fun u hu=>.inr ⟨q,hq,by rw[e1];exact h u hu⟩))
  ·exact .inr (.inr (.inl ⟨x,hx,by rw[e1];exact h⟩))
 ·refine .inr (.inr (.inr fun u hu=>?_))
  rw[e1]
  rcases h u hu with h | ⟨x,hx,h⟩
  ·exact .inl h
  ·rcases hm x hx with rfl | hx
   ·rcases hc u h with h | h
    ·exact .inr ⟨q,hq,h⟩
    ·exact .inl h
   ·exact .inr ⟨x,hx,h⟩
theorem De{cell:Nat→Nat→Int}{v z:Nat}{o:List Int}{r:List Nat}{u:Nat}(h1:z=v)(h2:o=A.out v (mM A cell v))(h3:u∈r):BD A cell v u (fW z o r):=by
 cases r with
 |nil=>cases h3
 |cons w r=>exact⟨h1,h2,by simpa using h3⟩
theorem QW{v z:Nat}{o:List Int}{u:Nat}{r:List Nat}{at_:Nat}{ch:Bool}(h:u=v∧ch=true):H3 v (fh A z o u r at_ ch).1:=by
 obtain⟨h1,rfl⟩:=h
 unfold fh
 split
 ·exact⟨h1,rfl⟩
 ·rw[ah rfl];exact h1
theorem RI{cell:Nat→Nat→Int}{v z:Nat}{o:List Int}{u w:Nat}{r:List Nat}{at_:Nat}{ch:Bool}(h1:z=v)(h2:o=A.out v (mM A cell v))(h3:w=u∨w∈r)(hj:∀i,i<at_+1→i<A.W→A.jw (o.getD i 0) (cell u i)=cell u i):BD A cell v w (fh A z o u r at_ ch).1∨EW A cell v w:=by
 unfold fh
 split
 ·exact .inl ⟨h1,h2,h3⟩
 ·rename_i hw
  rcases h3 with rfl | h3
  ·exact .inr fun i hi=>by rw[← h2];exact hj i (by omega) hi
  ·split
   ·exact .inl ⟨h1,h2,h3⟩
   ·exact .inl (De h1 h2 h3)
theorem PX{y z:List Int}(hl:y.length=z.length)(h:∀i,i<y.length→y.getD i 0=z.getD i 0):y=z:=by
 refine Ct hl fun i h1 h2=>?_
 have:=h i h1
 simpa [List.getD_eq_getElem?_getD,h1,h2]using this
theorem yo.step{b:Nat→Nat→Int}{S S':AS}{i:Nat}(ht:TI A S)(hv:VI A b S)(hs:Tr A S i S'){v:Nat}(dy:v<A.n)(h:yo A S v):yo A S' v:=by
 have at_:∀{p:Ph},S.ph[i]?=some p→vO A b S.cell p:=fun hp=>hv.ph _ (cu hp)
 cases hs with
 |stay=>exact h
 |zl a hp ha=>exact h.keep hp rfl rfl .inl (fun h=>h.elim) (fun h=>h.elim) fun u h=>h.elim
 |zm a hp hd=>exact h.keep hp rfl rfl .inl (fun h=>h.elim) (fun h=>h.elim) fun u h=>h.elim
 |yT a hp ha=>exact h.keep hp rfl rfl .inl (fun h=>h.elim) (fun h=>h.elim) fun u h=>h.elim
 |yU a hp=>exact h.keep hp rfl rfl .inl (fun h=>h.elim) (fun h=>h.elim) fun u h=>h.elim
 |ask hp hc=>exact h.keep hp rfl rfl .inl (fun h=>h.elim) (fun h=>h.elim) fun u h=>h.elim
 |y6 z o u r a hp ha=>exact h.keep hp rfl rfl .inl (fun h=>h.elim) (fun h=>h.elim) fun u h=>.inl h
 |pop z c a hp hd=>exact h.keep hp rfl rfl .inl (fun h=>h.elim) (fun h=>h.elim) fun u h=>h.elim
 |cas z a hp hd=>exact h.keep hp rfl rfl .inl (fun h=>h.elim) (fun h=>h.elim) fun u h=>h.elim
 |zT z hp=>exact h.keep hp rfl rfl .inl (fun h=>h.elim) (fun h=>h.elim) fun u h=>h.elim
 |cx j z c a hp hd=>exact h.keep hp rfl rfl .inl (fun h=>h.elim) (fun h=>h.elim) fun u h=>h.elim
 |clear z hp=>
  refine h.keep hp rfl rfl (fun hf=>?_) (fun h=>h.elim) (fun h=>h.elim) fun u h=>h.elim
  by_cases hz:v=z
  ·exact .inr ⟨hz.symm,fun i hi=>absurd hi (nV _)⟩
  ·left;show (if v=z then false else S.flag v)=true;rw[ag hz];exact hf
 |y4 z y hp hy=>
  refine h.keep hp rfl rfl .inl (fun h=>h.elim) (fun h=>.inl ?_) fun u h=>h.elim
  obtain⟨rfl,h2⟩:=h
  refine⟨rfl,fun j hj=>?_⟩
  simp at hj
  rw[GJ]
  by_cases ij:j<y.length
  ·rw[ah ij];exact h2 j ij
  ·rw[ag ij,ah (by omega),show j=y.length by omega]
 |y5 z y y' hp hy=>
  refine h.keep hp rfl rfl .inl (fun h=>h.elim) (fun h=>.inr fun u hu=>?_) fun u h=>h.elim
  obtain⟨rfl,h2⟩:=h
  have e:y'=mM A S.cell z:=by
   rcases hy with ⟨hl,rfl⟩ | ⟨hw,rfl⟩
   ·refine PX (by rw[GM];simpa using hl) fun j hj=>?_
    simp at hj
    rw[CZ _ _ (by omega),GJ]
    by_cases ij:j<y.length
    ·rw[ah ij];exact h2 j ij
    ·rw[ag ij,ah (by omega),show j=y.length by omega]
   ·exact PX (by rw[GM];exact hw.symm) fun j hj=>absurd hj (nV _)
  exact De rfl (by rw[e]) hu
 |load z o u r a ch hp ha hx=>exact h.keep hp rfl rfl .inl .inl (fun h=>h.elim) fun u h=>.inl h
 |same z o u r a ch hp ha hx=>
  obtain⟨h1,h2,h3,h4,_⟩:=at_ hp
  have hu:=ht.at_ hp (v:=u) (by simp[nodes])
  refine h.keep hp rfl rfl .inl (fun h=>.inl (QW h)) (fun h=>h.elim) fun w hw=>?_
  obtain⟨k1,k2,k3⟩:=hw
  refine RI k1 k2 k3 fun j hj hw=>?_
  rcases Cl (Ch hj) with hj | rfl
  ·exact h4 j hj hw
  ·rw[A.comm (h1.ok j hw) (hv.ok u j hu hw),hx]
 |lost z o u r a ch x hp ha hx=>exact h.keep hp rfl rfl .inl .inl (fun h=>h.elim) fun u h=>.inl h
 |zB z o u r a ch hp ha hx=>
  obtain⟨h1,h2,h3,h4,_⟩:=at_ hp
  have hu:=ht.at_ hp (v:=u) (by simp[nodes])
  have xW:=h1.ok a ha
  have oW:=hv.ok u a hu ha
  have hq:(fh A z o u r a true).1∈(S.ph.set i (fh A z o u r a true).1):=P4 hp
  by_cases Jg:v=u
  ·exact .inr (.inl ⟨_,hq,QW ⟨Jg.symm,rfl⟩⟩)
  ·have lI:∀j,eN S.cell u a (A.jw (S.cell u a) (o.getD a 0)) v j=S.cell v j:=fun j=>uX fun e=>Jg e.1
   have hL:mM A (eN S.cell u a (A.jw (S.cell u a) (o.getD a 0))) v=mM A S.cell v:=aaD Jg
   have hle:∀w∈A.nx v,EW A S.cell v w→EW A (eN S.cell u a (A.jw (S.cell u a) (o.getD a 0))) v w:=fun w hw hl j hj=>by
    rw[hL]
    have hwn:=A.DW dy hw
    by_cases he:w=u∧j=a
    ·obtain⟨rfl,rfl⟩:=he
     rw[AX]
     obtain⟨m1,m2⟩:=A.H5 dy (GM (A:=A) S.cell v) fun j hj=>by rw[CZ _ _ hj];exact hv.ok v j dy hj
     exact le_trans (m2 _ hj) oW (A.Oa oW xW) (hl _ hj) (Mj oW xW)
    ·rw[uX he];exact hl j hj
   have hm:∀x∈S.ph,x=.join z o u r a (some (S.cell u a)) ch∨x∈S.ph.set i (fh A z o u r a true).1:=fun x hx=>QU hp hx
   rcases h with h | ⟨x,kG,h⟩ | ⟨x,kG,h⟩ | h
   ·exact .inl h
   ·rcases hm x kG with rfl | kG
    ·exact absurd h.1.symm Jg
    ·exact .inr (.inl ⟨x,kG,h⟩)
   ·rcases hm x kG with rfl | kG
    ·exact h.elim
    ·refine .inr (.inr (.inl ⟨x,kG,?_⟩))
     cases x with
     |read z' y=>exact⟨h.1,fun j hj=>by rw[h.2 j hj];exact (lI j).symm⟩
     |_=>exact h.elim
   ·refine .inr (.inr (.inr fun w hw=>?_))
    rcases h w hw with h | ⟨x,kG,h⟩
    ·exact .inl (hle w hw h)
    ·rcases hm x kG with rfl | kG
     ·obtain⟨k1,k2,k3⟩:=h
      have hwn:=A.DW dy hw
      have:=RI (A:=A) (cell:=eN S.cell u a (A.jw (S.cell u a) (o.getD a 0))) (r:=r) (at_:=a) (ch:=true) k1 (k2.trans (by rw[hL])) k3 fun j hj hw=>by
       rcases Cl (Ch hj) with hj | rfl
       ·rw[uX (fun e=>by omega)];exact h4 j hj hw
       ·rw[AX];exact S1 oW xW
      rcases this with h | h
      ·exact .inr ⟨_,hq,h⟩
      ·exact .inl h
     ·right
      refine⟨x,kG,?_⟩
      cases x with
      |join z' o' u' r' a' ld' ch'=>exact⟨h.1,h.2.1.trans (by rw[hL]),h.2.2⟩
      |take z' o' u' r'=>exact⟨h.1,h.2.1.trans (by rw[hL]),h.2.2⟩
      |add z' o' u' r'=>exact⟨h.1,h.2.1.trans (by rw[hL]),h.2.2⟩
      |push z' o' u' r' a'=>exact⟨h.1,h.2.1.trans (by rw[hL]),h.2.2⟩
      |_=>exact h.elim
 |none z o u r hp ha=>
  obtain⟨h1,h2,h3,h4,_⟩:=at_ hp
  refine h.keep hp rfl rfl .inl (fun h=>by cases h.2) (fun h=>h.elim) fun w hw=>?_
  obtain⟨k1,k2,k3⟩:=hw
  rcases k3 with rfl | k3
  ·exact .inr fun i hi=>by omega
  ·exact .inl (De k1 k2 k3)
 |flag z o u r hp hf=>
  refine h.keep hp rfl rfl (fun h=>.inl ?_) (fun h=>.inr ?_) (fun h=>h.elim) fun u h=>.inl h
  ·show (if v=u then true else S.flag v)=true;(split);rfl;exact h
  ·have h:u=v:=h
   show (if v=u then true else S.flag v)=true;rw[ah h.symm]
 |zp z o u r hp hf=>
  refine h.keep hp rfl rfl .inl (fun h=>.inr ?_) (fun h=>h.elim) fun w hw=>.inl (De hw.1 hw.2.1 hw.2.2)
  have h:u=v:=h
  rw[← h];exact hf
 |add z o u r hp=>exact h.keep hp rfl rfl .inl (fun h=>h.elim) (fun h=>h.elim) fun u h=>.inl h
 |push z o u r c hp hd=>exact h.keep hp rfl rfl .inl (fun h=>h.elim) (fun h=>h.elim) fun w hw=>.inl (De hw.1 hw.2.1 hw.2.2)
 |dW z hp=>exact h.keep hp rfl rfl .inl (fun h=>h.elim) (fun h=>h.elim) fun u h=>h.elim
 |zj hp hc=>exact h.keep hp rfl rfl .inl (fun h=>h.elim) (fun h=>h.elim) fun u h=>h.elim
theorem Ae{α:Type}{f:α→Nat}:∀{l:List α},(∀x∈l,f x=0)→aI f l=0
 | [],_=>rfl
 |a::l,h=>by
  show f a+aI f l=0
  rw[h a (bU ..),Ae fun x hx=>h x (cQ _ hx)]
def Rest(S:AS):Prop:=.done∈S.ph→S.aF=0
theorem Rest.step{S S':AS}{i:Nat}(ht:TI A S)(h:Rest S)(hs:Tr A S i S'):Rest S':=by
 have key:∀{p q:Ph},S.ph[i]?=some p→q≠.done→Ph.done∈S.ph.set i q→S.aF=0:=fun hp hq hd=>by
  rcases q9 hd with hd | hd
  ·exact h hd
  ·exact absurd hd.symm hq
 have hj:∀v o u r a ch,(fh A v o u r a ch).1≠.done:=fun v o u r a ch=>by
  unfold fh;split
  ·exact fun h=>by cases h
  ·split
   ·exact fun h=>by cases h
   ·cases r <;> exact fun h=>by cases h
 have hf:∀v o r,fW v o r≠.done:=fun v o r=>by cases r <;> exact fun h=>by cases h
 intro hd
 cases hs with
 |stay=>exact h hd
 |zl a hp ha=>exact key hp (fun h=>by cases h) hd
 |zm a hp ha=>exact key hp (fun h=>by cases h) hd
 |yT a hp ha=>exact key hp (fun h=>by cases h) hd
 |yU a hp=>exact key hp (fun h=>by cases h) hd
 |ask hp hc=>exact key hp (fun h=>by cases h) hd
 |y6 v o u r a hp ha=>exact key hp (fun h=>by cases h) hd
 |pop v c a hp h2=>exact key hp (fun h=>by cases h) hd
 |cas v a hp h2=>exact key hp (fun h=>by cases h) hd
 |zT v hp=>exact key hp (fun h=>by cases h) hd
 |cx j v c a hp h2=>exact key hp (fun h=>by cases h) hd
 |clear v hp=>exact key hp (fun h=>by cases h) hd
 |y4 v y hp hy=>exact key hp (fun h=>by cases h) hd
 |y5 v y y' hp hy=>exact key hp (hf _ _ _) hd
 |load v o u r a ch hp ha hx=>exact key hp (fun h=>by cases h) hd
 |same v o u r a ch hp ha hx=>exact key hp (hj _ _ _ _ _ _) hd
 |lost v o u r a ch x hp ha hx=>exact key hp (fun h=>by cases h) hd
 |zB v o u r a ch hp ha hx=>exact key hp (hj _ _ _ _ _ _) hd
 |none v o u r hp ha=>exact key hp (hf _ _ _) hd
 |flag v o u r hp h2=>exact key hp (fun h=>by cases h) hd
 |zp v o u r hp h2=>exact key hp (hf _ _ _) hd
 |add v o u r hp=>
  have h0:=key hp (fun h=>by cases h) hd
  have:=ht.aF
  have:=Dl cw S.ph i _ hp
  simp[cw]at this
  omega
 |push v o u r c hp h2=>exact key hp (hf _ _ _) hd
 |dW v hp=>show S.aF-1=0;rw[key hp (fun h=>by cases h) hd]
 |zj hp hc=>exact hc
def gX:Ph→Nat
 |.held _ | .clear _ | .read .. | .take .. | .add .. | .push .. => 1
 |_=>0
theorem Dx(v:Nat)(o:List Int)(r:List Nat):gX (fW v o r)=0:=by cases r <;> rfl
theorem S7(A:AP)(v:Nat)(o:List Int)(u:Nat)(r:List Nat)(at_:Nat)(ch:Bool):gX (fh A v o u r at_ ch).1=(fh A v o u r at_ ch).2:=by
 unfold fh;split
 ·rfl
 ·split
  ·rfl
  ·exact Dx _ _ _
def EI(S:AS)(n:Nat):Prop:=S.ev+aI List.length S.dq+aI gX S.ph≤n+S.jo
theorem EI.step{S S':AS}{i n:Nat}(h:EI S n)(hs:Tr A S i S'):EI S' n:=by
 unfold EI at h ⊢
 have key:=fun p q (hp:S.ph[i]?=some p)=>fK gX S.ph i p q hp
 have IA:=fun j (c d:List Nat) (hp:S.dq[j]?=some c)=>fK List.length S.dq j c d hp
 cases hs with
 |stay=>exact h
 |zl a hp ha=>have:=key _ (.idle 0 (a+1)) hp;simp only[gX]at *;omega
 |zm a hp ha=>have:=key _ (.idle (if A.k<2 then 2 else 1) 0) hp;simp only[gX]at *;omega
 |yT a hp ha=>have:=key _ (.idle 1 (a+1)) hp;simp only[gX]at *;omega
 |yU a hp=>have:=key _ (.idle 2 0) hp;simp only[gX]at *;omega
 |ask hp hc=>have:=key _ (.idle (if A.k<2 then 0 else 1) 0) hp;simp only[gX]at *;omega
 |y6 v o u r a hp ha=>have:=key _ (.push v o u r (a+1)) hp;simp only[gX]at *;omega
 |pop v c a hp hd=>have:=key _ (.clear v) hp;have:=IA _ _ c hd;simp[gX]at *;omega
 |cas v a hp hd=>have:=key _ (.held v) hp;have:=IA _ _ [] hd;simp[gX]at *;omega
 |zT v hp=>have:=key _ (.clear v) hp;simp[gX]at *;omega
 |cx j v c a hp hd=>have:=key _ (.clear v) hp;have:=IA _ _ c hd;simp[gX]at *;omega
 |clear v hp=>have:=key _ (.read v []) hp;simp[gX]at *;omega
 |y4 v y hp hy=>have:=key _ (.read v (y++[S.cell v y.length])) hp;simp only[gX]at *;omega
 |y5 v y y' hp hy=>have:=key _ (fW v (A.out v y') (A.nx v)) hp;rw[Dx]at this;simp only[gX]at *;omega
 |load v o u r a ch hp ha hx=>have:=key _ (.join v o u r a (some (S.cell u a)) ch) hp;simp only[gX]at *;omega
 |same v o u r a ch hp ha hx=>have:=key _ (fh A v o u r a ch).1 hp;rw[S7]at this;simp only[gX]at *;omega
 |lost v o u r a ch x hp ha hx=>have:=key _ (.join v o u r a none ch) hp;simp only[gX]at *;omega
 |zB v o u r a ch hp ha hx=>have:=key _ (fh A v o u r a true).1 hp;rw[S7]at this;simp only[gX]at *;omega
 |none v o u r hp ha=>have:=key _ (fW v o r) hp;rw[Dx]at this;simp only[gX]at *;omega
 |flag v o u r hp hf=>have:=key _ (.add v o u r) hp;simp only[gX]at *;omega
 |zp v o u r hp hf=>have:=key _ (fW v o r) hp;rw[Dx]at this;simp only[gX]at *;omega
 |add v o u r hp=>have:=key _ (.push v o u r 0) hp;simp only[gX]at *;omega
 |push v o u r c hp hd=>have:=key _ (fW v o r) hp;rw[Dx]at this;have:=IA _ _ (c++[u]) hd;simp only[gX,bV,td]at *;omega
 |dW v hp=>have:=key _ (.idle 0 0) hp;simp only[gX]at *;omega
 |zj hp hc=>have:=key _ .done hp;simp only[gX]at *;omega
def fJ:Ph→Nat
 |.join _ _ _ _ _ _ true=>1
 |_=>0
theorem Dz(v:Nat)(o:List Int)(r:List Nat):fJ (fW v o r)=0:=by cases r <;> rfl
theorem S9(A:AP)(v:Nat)(o:List Int)(u:Nat)(r:List Nat)(at_:Nat)(ch:Bool):fJ (fh A v o u r at_ ch).1+(fh A v o u r at_ ch).2=if ch then 1 else 0:=by
 unfold fh;split
 ·cases ch <;> rfl
 ·cases ch with
  |true=>rfl
  |false=>show fJ (fW v o r)+0=0;rw[Dz]
structure Xi(A:AP)(Us:List Nat)(rk:(Nat→Int)→Nat):Prop where
 nodup:Us.Nodup
 all:∀v,v<A.n→∀u∈A.nx v,u∈Us
 up:∀(c:Nat→Int) (i:Nat) (x:Int),i<A.W→(∀j,j<A.W→A.ok j (c j))→A.ok i x→A.jw (c i) x≠c i→rk c+1≤rk fun j=>if j=i then A.jw (c i) x else c j
def JI(S:AS)(Us:List Nat)(rk:(Nat→Int)→Nat):Prop:=S.jo+aI fJ S.ph≤aI (fun u=>rk (S.cell u)) Us
theorem CP{α:Type}{f g:α→Nat}:∀{l:List α},(∀x∈l,f x=g x)→aI f l=aI g l
 | [],_=>rfl
 |a::l,h=>by
  show f a+aI f l=g a+aI g l
  rw[h a (bU ..),CP fun x hx=>h x (cQ _ hx)]
theorem L9{f g:Nat→Nat}{u:Nat}:∀{l:List Nat},l.Nodup→u∈l→(∀x∈l,x≠u→f x=g x)→aI f l+g u=aI g l+f u
 |a::l,hn,hu,h=>by
  obtain⟨h1,h2⟩:=lY.1 hn
  show f a+aI f l+g u=g a+aI g l+f u
  rcases dA.1 hu with rfl | hu
  ·rw[CP (f:=f) (g:=g) (l:=l) fun x hx=>h x (cQ _ hx) fun e=>h1 (e▸hx)]
   omega
  ·have:=L9 h2 hu fun x hx=>h x (cQ _ hx)
   rw[h a (bU ..) fun e=>h1 (e▸hu)]
   omega
theorem JI.step{b:Nat→Nat→Int}{S S':AS}{i:Nat}{Us:List Nat}{rk:(Nat→Int)→Nat}(hr:Xi A Us rk)(ht:TI A S)(hv:VI A b S)(h:JI S Us rk)(hs:Tr A S i S'):JI S' Us rk:=by
 unfold JI at h ⊢
 have key:=fun p q (hp:S.ph[i]?=some p)=>fK fJ S.ph i p q hp
 cases hs with
 |stay=>exact h
 |zl a hp ha=>have:=key _ (.idle 0 (a+1)) hp;simp only[fJ]at *;omega
 |zm a hp ha=>have:=key _ (.idle (if A.k<2 then 2 else 1) 0) hp;simp only[fJ]at *;omega
 |yT a hp ha=>have:=key _ (.idle 1 (a+1)) hp;simp only[fJ]at *;omega
 |yU a hp=>have:=key _ (.idle 2 0) hp;simp only[fJ]at *;omega
 |ask hp hc=>have:=key _ (.idle (if A.k<2 then 0 else 1) 0) hp;simp only[fJ]at *;omega
 |y6 v o u r a hp ha=>have:=key _ (.push v o u r (a+1)) hp;simp only[fJ]at *;omega
 |pop v c a hp hd=>have:=key _ (.clear v) hp;simp only[fJ]at *;omega
 |cas v a hp hd=>have:=key _ (.held v) hp;simp only[fJ]at *;omega
 |zT v hp=>have:=key _ (.clear v) hp;simp only[fJ]at *;omega
 |cx j v c a hp hd=>have:=key _ (.clear v) hp;simp only[fJ]at *;omega
 |clear v hp=>have:=key _ (.read v []) hp;simp only[fJ]at *;omega
 |y4 v y hp hy=>have:=key _ (.read v (y++[S.cell v y.length])) hp;simp only[fJ]at *;omega
 |y5 v y y' hp hy=>have:=key _ (fW v (A.out v y') (A.nx v)) hp;rw[Dz]at this;simp only[fJ]at *;omega
 |load v o u r a ch hp ha hx=>
  have:=key _ (.join v o u r a (some (S.cell u a)) ch) hp
  have e:fJ (.join v o u r a (some (S.cell u a)) ch)=fJ (.join v o u r a none ch):=by cases ch <;> rfl
  rw[e]at this
  show S.jo+aI fJ (S.ph.set i _)≤aI (fun u=>rk (S.cell u)) Us
  omega
 |same v o u r a ch hp ha hx=>
  have:=key _ (fh A v o u r a ch).1 hp
  have e:=S9 A v o u r a ch
  have e2:fJ (.join v o u r a none ch)=if ch then 1 else 0:=by cases ch <;> rfl
  rw[e2]at this
  show S.jo+(fh A v o u r a ch).2+aI fJ (S.ph.set i _)≤aI (fun u=>rk (S.cell u)) Us
  omega
 |lost v o u r a ch x hp ha hx=>
  have:=key _ (.join v o u r a none ch) hp
  have e:fJ (.join v o u r a (some x) ch)=fJ (.join v o u r a none ch):=by cases ch <;> rfl
  rw[e]at this
  show S.jo+aI fJ (S.ph.set i _)≤aI (fun u=>rk (S.cell u)) Us
  omega
 |zB v o u r a ch hp ha hx=>
  obtain⟨h1,h2,h3,h4,_⟩:=hv.ph _ (cu hp)
  have fq:=ht.at_ hp (v:=u) (by simp[nodes])
  have dy:=ht.at_ hp (v:=v) (by simp[nodes])
  have:=key _ (fh A v o u r a true).1 hp
  have e:=S9 A v o u r a true
  rw[ah rfl]at e
  have my:=hr.up (S.cell u) a (o.getD a 0) ha (fun j hj=>hv.ok u j fq hj) (h1.ok a ha) hx
  have oG:=L9 (f:=fun z=>rk (eN S.cell u a (A.jw (S.cell u a) (o.getD a 0)) z)) (g:=fun z=>rk (S.cell z)) hr.nodup (hr.all v dy u h2) fun z _ hz=>by
   show rk _=rk _
   congr 1
   funext j
   exact uX fun e=>hz e.1
  have e3:(eN S.cell u a (A.jw (S.cell u a) (o.getD a 0)) u)=fun j=>if j=a then A.jw (S.cell u a) (o.getD a 0) else S.cell u j:=by
   funext j;simp[eN]
  simp only[e3]at oG
  have hone':aI (fun z=>rk (eN S.cell u a (A.jw (S.cell u a) (o.getD a 0)) z)) Us+rk (S.cell u)=aI (fun z=>rk (S.cell z)) Us+rk (fun j=>if j=a then A.jw (S.cell u a) (o.getD a 0) else S.cell u j):=oG
  show S.jo+(fh A v o u r a true).2+aI fJ (S.ph.set i _)≤aI (fun z=>rk (eN S.cell u a (A.jw (S.cell u a) (o.getD a 0)) z)) Us
  omega
 |none v o u r hp ha=>have:=key _ (fW v o r) hp;rw[Dz]at this;simp only[fJ]at *;omega
 |flag v o u r hp hf=>have:=key _ (.add v o u r) hp;simp only[fJ]at *;omega
 |zp v o u r hp hf=>have:=key _ (fW v o r) hp;rw[Dz]at this;simp only[fJ]at *;omega
 |add v o u r hp=>have:=key _ (.push v o u r 0) hp;simp only[fJ]at *;omega
 |push v o u r c hp hd=>have:=key _ (fW v o r) hp;rw[Dz]at this;simp only[fJ]at *;omega
 |dW v hp=>have:=key _ (.idle 0 0) hp;simp only[fJ]at *;omega
 |zj hp hc=>have:=key _ .done hp;simp only[fJ]at *;omega
end SX
end Go.Proofs.YtnikdflhefijbaaGreat
