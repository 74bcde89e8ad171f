import Derived.Test.YtnikdflhefijbaaGreatBn20
import Derived.Test.YtnikdflhefijbaaGreatBn13
import Derived.Shelf.Slices.CompactI
import Derived.Shelf.Slices.In.SortNone
import Derived.Shelf.Sort.Plain
import Derived.Test.YtnikdflhefijbaaGreatBn11
namespace Go.Proofs.YtnikdflhefijbaaGreat
open Go.RowKit
set_option maxRecDepth 100000
theorem ad9(l:List Int)(x:Int)(σ:Hp)(hl:l.length≤1000000):ACalls Tryz.prog 287 [.af (.int .i64) l,.int .i64 x] σ (fun r σ'=>∃n:Int,r=.int .i64 n∧σ'=σ∧decide (0≤n)=l.any fun z=>decide (x=z)):=by
 refine ay Tryz.func287 ?_
 refine bV (S:=Nat) (fun s=>[(0,.af (.int .i64) l),(1,.int .i64 x),(7,.int .i64 l.length),(8,.int .i64 s)]) (fun _=>σ) (fun s=>s≤l.length∧((l.take s).any fun z=>decide (x=z))=false) (fun s=>l.length-s) 0 ⟨⟨bA _,rfl⟩,⟨rfl,rfl,rfl,rfl,trivial⟩,rfl⟩ ?_
 rintro k t ⟨aL,fR⟩
 have hk:k≤l.length:=aL
 have hn:((l.take k).any fun z=>decide (x=z))=false:=fR
 clear aL fR
 refine an (fun ab=>?_) (fun ar=>?_)
 ·have ab:k<l.length:=by have ab:(k:Int)<l.length:=ab;omega
  have hs:=qP ab fun z=>decide (x=z)
  rw[hn,oK]at hs
  refine ag.mk rfl (bG.mk l[k] (by omega) (get_some ab) ?_)
  refine an (fun c=>?_) (fun c=>?_)
  ·have c:x=l[k]:=c
   have hp:(l.any fun z=>decide (x=z))=true:=mf.2 ⟨l[k],bX ab,aV c⟩
   exact .done ⟨_,rfl,rfl,by rw[hp];exact aV (by omega)⟩
  ·have c:¬x=l[k]:=c
   exact a8 (k+1) (by show l.length-(k+1)<l.length-k;omega) ⟨ab,hs.trans (bR c)⟩ ⟨rfl,rfl,rfl,aX (by omega),trivial⟩ (.refl _)
 ·have ar:k=l.length:=by have ar:¬(k:Int)<l.length:=ar;omega
  subst ar
  rw[fj]at hn
  exact .done ⟨_,rfl,rfl,by rw[hn];rfl⟩
theorem X5(l:List Int)(x:Int)(σ:Hp)(hl:l.length≤1000000):ACalls Tryz.prog 255 [.af (.int .i64) l,.int .i64 x] σ (aE (.bool (l.any fun z=>decide (x=z))) σ):=by
 refine ay Tryz.func255 ?_
 refine .mk [] _ (ad9 l x _ hl) ?_
 rintro _ _ ⟨n,rfl,rfl,hn⟩
 rw[← hn]
 refine an (fun c=>?_) (fun c=>?_)
 ·have c:0≤n:=c
  rw[aV c]
  exact .done ⟨rfl,rfl⟩
 ·have c:¬0≤n:=c
  rw[bR c]
  exact .done ⟨rfl,rfl⟩
theorem adf(l:List Int)(σ:Hp)(hl:l.length≤1000000):ACalls Tryz.prog 256 [.af (.int .u64) l] σ (aE (.af (.int .u64) l) σ):=by
 refine (Tx l σ hl).fin ?_
 rintro v σ' ⟨acc,bY,rfl⟩
 exact pO (s:=.int .u64) [] bY rfl (kH l) (by decide) (.done ⟨rfl,rfl⟩)
def gG(s:Sy)(v:Int):List Int:=if (s.entry.any fun z=>decide (v=z))=true then s.init else fX s.what s.w
theorem aea(s:Sy)(v:Int)(σ:Hp)(hf:Fit s):ACalls Tryz.prog 212 [.agg (bc s),.int .i64 v] σ (aE (.af (.int .u64) (gG s v)) σ):=by
 refine ay Tryz.func212 ?_
 intro aD
 refine aa 0 ?_
 refine eb [] (X5 s.entry v _ (fD hf.AB (by decide))) (fun c=>?_) (fun c=>?_)
 ·refine aa 0 ?_
  refine az [] (adf s.init _ (fD hf.Ds (by decide))) ?_
  exact .drop 0 1 (.done ⟨by unfold gG;rw[c];rfl,rfl⟩)
 ·refine aa 0 ?_
  refine aa 0 ?_
  refine az [] (KK _ _ _) ?_
  exact .drop 0 1 (.done ⟨by unfold gG;rw[c];rfl,rfl⟩)
def pV(s:Sy)(a:List (List Int)):Bool:=decide ((a.length:Int)=s.n)&&a.all (cC s.what s.w)
def uR(a:List (List Int)):Prop:=a.length≤100000∧∀x∈a,aR x∧x.length≤10000
theorem U2{what w:Int}(l:List (List Int)){b:Bool}(h:(l.any fun x=> !cC what w x)=b):l.all (cC what w) = !b:=by rw[Li,h]
def rQ(p:List Int→List Int→Bool)(a b:List (List Int)):Bool:=decide (a.length=b.length)&&(List.zipWith p a b).all id
theorem Fq{p:List Int→List Int→Bool}{a b:List (List Int)}:rQ p a b=true↔a.length=b.length∧∀i (h:i<a.length) (h2:i<b.length),p a[i] b[i]=true:=by
 unfold rQ
 rw[bL,decide_eq_true_eq,fk]
 constructor
 ·rintro⟨h1,h2⟩
  refine⟨h1,fun i hi su=>?_⟩
  exact h2 _ (tW.2 ⟨i,by rw[I8];omega,by rw[Of]⟩)
 ·rintro⟨h1,h2⟩
  refine⟨h1,fun x hx=>?_⟩
  obtain⟨i,hi,rfl⟩:=tW.1 hx
  rw[I8]at hi
  rw[Of]
  exact h2 i (by omega) (by omega)
theorem W9{p:List Int→List Int→Bool}{a b:List (List Int)}{k:Nat}(h1:k<a.length)(h2:k<b.length)(ht:rQ p (a.take k) (b.take k)=true)(hc:p a[k] b[k]=true):rQ p (a.take (k+1)) (b.take (k+1))=true:=by
 rw[Fq]at ht ⊢
 obtain⟨_,q⟩:=ht
 refine⟨by simp;omega,fun i hi su=>?_⟩
 rw[I2,I2]
 by_cases e:i=k
 ·subst e;exact hc
 ·have:=q i (by simp at hi ⊢;omega) (by simp at hi ⊢;omega)
  rw[I2,I2]at this
  exact this
theorem Zn{p:List Int→List Int→Bool}{a b:List (List Int)}{k:Nat}(h1:k<a.length)(h2:k<b.length)(hc:p a[k] b[k]=false):rQ p a b=false:=by
 cases h:rQ p a b with
 |false=>rfl
 |true=>rw[(Fq.1 h).2 k h1 h2]at hc;cases hc
def LG(s:Sy)(a b:List (List Int)):Bool:=decide (eK s=0)&&pV s a&&pV s b&&rQ (pS s.what s.w) a b
structure Good(s:Sy):Prop where
 sj:cD s.what s.w=true
 n1:1≤s.n
 n2:s.n≤256
 el:s.bf.length≤1024
 yO:∀e∈s.bf,(0≤e.1∧e.1<s.n)∧0≤e.2.1∧e.2.1<s.n
 tl:(s.T.length:Int)=s.n
 ent:∀v∈s.entry,0≤v∧v<s.n
 ini:cC s.what s.w s.init=true
 DP:∀t∈s.T,ft s.what s.w t.1 t.2.1 t.2.2.1=0
theorem kI{n a:Int}:dI n a=true↔0≤a∧a<n:=by unfold dI;simp
theorem Le{s:Sy}(h:eK s=0):Good s:=by
 unfold eK at h
 split at h
 ·rename_i h1
  split at h
  ·rename_i h2
   split at h
   ·cases h
   ·rename_i h3
    split at h
    ·rename_i h4
     split at h
     ·cases h
     ·rename_i h5
      have h3:(s.entry.any fun v=> !dI s.n v)=false:=by simpa using h3
      have h5:(s.T.any fun t=> !decide (ft s.what s.w t.1 t.2.1 t.2.2.1=0))=false:=by simpa using h5
      have hr:=h2.1
      unfold fe at hr
      simp only[bL,decide_eq_true_eq]at hr
      refine⟨h1,hr.1.1.1,hr.1.1.2,hr.1.2,fun e he=>?_,h2.2,fun v hv=>?_,h4,fun t ht=>?_⟩
      ·have:=fk.1 hr.2 e he
       rw[bL,kI,kI]at this
       exact this
      ·have:=Bg.1 h3 v hv
       exact kI.1 (by simpa using this)
      ·have:=Bg.1 h5 t ht
       simpa using this
    ·cases h
  ·cases h
 ·cases h
theorem Kc{s:Sy}(h:Good s):eK s=0:=by
 refine (Mf h.sj ⟨?_,h.tl⟩ (Bg.2 fun v hv=>?_) h.ini (Bg.2 fun t ht=>?_)).symm
 ·unfold fe
  simp only[bL,decide_eq_true_eq]
  refine⟨⟨⟨h.n1,h.n2⟩,h.el⟩,fk.2 fun e he=>?_⟩
  rw[bL,kI,kI];exact h.yO e he
 ·rw[kI.2 (h.ent v hv)];decide
 ·rw[h.DP t ht];decide
def iD(s:Sy)(x:List Int)(v:Nat):List Int:=fU s.what (s.T.getD v ([],[],[],())).1 (s.T.getD v ([],[],[],())).2.1 (s.T.getD v ([],[],[],())).2.2.1 x
def wQ(s:Sy)(a:List (List Int))(v:Nat)(x:List Int)(e:bC):List Int:=if e.2.1=v then dg s.what x (iD s (a.getD e.1.toNat []) e.1.toNat) else x
def jD(s:Sy)(a:List (List Int))(k v:Nat):List Int:=(s.bf.take k).foldl (wQ s a v) (gG s v)
def CR(s:Sy)(a:List (List Int))(k:Nat):List (List Int):=(List.range s.n.toNat).map (jD s a k)
def gz(s:Sy)(a:List (List Int)):List (List Int):=CR s a s.bf.length
theorem OX(s:Sy)(a:List (List Int))(k:Nat):(CR s a k).length=s.n.toNat:=by unfold CR;simp
theorem zA(s:Sy)(a:List (List Int)){k:Nat}(h:k<s.bf.length)(v:Nat):jD s a (k+1) v=wQ s a v (jD s a k v) s.bf[k]:=by
 unfold jD;rw[fp h,tS];rfl
theorem B3{s:Sy}{a:List (List Int)}:pV s a=true↔(a.length:Int)=s.n∧∀x∈a,cC s.what s.w x=true:=by
 unfold pV;rw[bL,decide_eq_true_eq,fk]
theorem BL{what w:Int}{x:List Int}(h:cC what w x=true):x.length≤1024:=by
 have h1:=wx h
 have:=xV what w;omega
theorem Hx{s:Sy}(hg:Good s){v:Nat}(h:(v:Int)<s.n):∃h2:v<s.T.length,s.T.getD v ([],[],[],())=s.T[v]:=by
 have h2:v<s.T.length:=by have:=hg.tl;omega
 exact⟨h2,by rw[aW,bJ h2];rfl⟩
theorem Gn{s:Sy}(hf:Fit s)(hg:Good s){x:List Int}(jO:aR x)(hv:cC s.what s.w x=true){v:Nat}(h:(v:Int)<s.n):cC s.what s.w (iD s x v)=true∧aR (iD s x v):=by
 obtain⟨h2,e⟩:=Hx hg h
 unfold iD
 rw[e]
 have ho:=hf.ts _ (bX h2)
 exact⟨FN ho.1 ho.2.1 jO (hg.DP _ (bX h2)) hv,zH jO⟩
theorem JW{s:Sy}(hf:Fit s)(hg:Good s)(v:Int):cC s.what s.w (gG s v)=true∧aR (gG s v):=by
 unfold gG;split
 ·exact⟨hg.ini,hf.i64⟩
 ·exact⟨GD hg.sj,G2 _ _⟩
theorem Fx{s:Sy}(hf:Fit s)(hg:Good s){a:List (List Int)}(ha:uR a)(hv:pV s a=true)(v:Nat):∀k,k≤s.bf.length→cC s.what s.w (jD s a k v)=true∧aR (jD s a k v)
 | 0,_=>by
  show cC s.what s.w (gG s v)=true∧aR (gG s v)
  exact JW hf hg v
 |k+1,h=>by
  have ih:=Fx hf hg ha hv v k (by omega)
  rw[zA s a (by omega)]
  unfold wQ
  split
  ·have he:=hg.yO _ (bX (show k<s.bf.length by omega))
   have Ni:=B3.1 hv
   generalize s.bf[k]=e at he
   have hl:e.1.toNat<a.length:=by omega
   have hm:a.getD e.1.toNat []∈a:=by rw[aW,bJ hl];exact bX hl
   have ho:=Gn hf hg (ha.2 _ hm).1 (Ni.2 _ hm) (v:=e.1.toNat) (by omega)
   exact⟨Kz ih.2 ho.2 ih.1 ho.1,wF ih.2 ho.2⟩
  ·exact ih
theorem PA{s:Sy}(hf:Fit s)(hg:Good s){a:List (List Int)}(ha:uR a)(hv:pV s a=true):pV s (gz s a)=true∧uR (gz s a):=by
 have hx:∀x∈gz s a,cC s.what s.w x=true∧aR x:=fun x hx=>by
  obtain⟨v,_,rfl⟩:=dX.1 hx
  exact Fx hf hg ha hv v _ (aU _)
 have hn:=hg.n1
 have oF:=hg.n2
 have hl:(gz s a).length=s.n.toNat:=OX _ _ _
 exact⟨B3.2 ⟨by omega,fun x h=>(hx x h).1⟩,by omega,fun x h=>⟨(hx x h).2,by have:=BL (hx x h).1;omega⟩⟩
def uC(x:List Int):AV:=.af (.int .u64) x
def ve(l:List (List Int)):List AV:=l.map uC
theorem Kl:∀l:List (List Int),ve l=l.flatMap (Sh.cells (.slice (.int .u64)))
 | []=>rfl
 |x::l=>congrArg (uC x :: ·) (Kl l)
theorem uv{i:TI}(hs:i.size=1){cs:List AV}{o:Nat}{v:AV}(hv:v.cells?=some [v])(ho:o<cs.length):kJ i cs o v=some (cs.set o v):=by
 unfold kJ
 rw[hv]
 simp only
 have e1:Nat.beq ([v]:List AV).length i.size=true:=by rw[hs];rfl
 have e2:Nat.ble (o+i.size) cs.length=true:=Oy (by omega)
 rw[e1,e2]
 rfl
theorem je{i:TI}(hw:i.wide=false){cs:List AV}{o:Nat}{v:AV}(h:cs[o]?=some v):eu i cs o=some v:=by unfold eu;rw[hw];exact h
def mS(s:Sy):List (List Int):=List.replicate s.n.toNat (fX s.what s.w)
theorem OT(s:Sy):(mS s).length=s.n.toNat:=gb
def bK(b:List Bool):List AV:=b.map .bool
theorem acI{b:List Bool}{k:Nat}(h:k<b.length){z:Int}(hz:z=k):(bK b)[0+z.toNat*1]?=some (.bool (b.getD k false)):=by
 subst hz
 rw[bM,eH,eF]
 unfold bK
 rw[fo,bJ h,aW,bJ h];rfl
theorem acG(b:List Bool)(k:Nat)(x:Bool){z:Int}(hz:z=k):(bK b).set (0+z.toNat*1) (.bool x)=bK (b.set k x):=by
 subst hz
 rw[bM,eH,eF]
 unfold bK
 rw[oM]
theorem Cn(n:Nat):cE [.bool false] n=bK (List.replicate n false):=by
 induction n with
 |zero=>rfl
 |succ n ih=>show AV.bool false::cE [.bool false] n=_;rw[ih];rfl
def wP(n:Int)(b:List Bool)(a:Int):List Bool:=if 0≤a∧a<n then b.set a.toNat true else b
def rC(n:Int)(b:List Bool)(e:bC):List Bool:=if (0≤e.1∧e.1<n)∧(0≤e.2.1∧e.2.1<n)∧b.getD e.1.toNat false=true then b.set e.2.1.toNat true else b
def o0(n:Int)(l:List bC)(b:List Bool):List Bool:=l.foldl (rC n) b
def ui(n:Int)(l:List bC):Nat→List Bool→List Bool
 | 0,b=>b
 |k+1,b=>ui n l k (o0 n l b)
def L2(b:List Bool)(k:Nat):List Int:=((List.range k).filter fun i=>b.getD i false).map fun i:Nat=>(i:Int)
def CJ(n:Int)(l:List bC)(fr:List Int):List Bool:=ui n l n.toNat (fr.foldl (wP n) (List.replicate n.toNat false))
def Ls(n:Int)(l:List bC)(fr:List Int):List Int:=L2 (CJ n l fr) n.toNat
theorem O3(n:Int)(b:List Bool)(a:Int):(wP n b a).length=b.length:=by unfold wP;split;exact cM;rfl
theorem PV(n:Int)(b:List Bool)(e:bC):(rC n b e).length=b.length:=by unfold rC;split;exact cM;rfl
theorem acH(b:List Bool):(bK b).length=b.length:=cd _
theorem rounds_succ(n:Int)(l:List bC)(k:Nat)(b:List Bool):ui n l (k+1) b=ui n l k (o0 n l b):=rfl
theorem xX{i:TI}(hs:i.size=1){b:List Bool}(x:Bool){a:Int}(h1:0≤a)(h2:a<b.length):kJ i (bK b) (0+a.toNat*1) (.bool x)=some (bK (b.set a.toNat x)):=by
 rw[uv hs rfl (by rw[acH];omega),acG b a.toNat x (by omega)]
theorem sQ{i:TI}(hw:i.wide=false){b:List Bool}{a:Int}(h1:0≤a)(h2:a<b.length):eu i (bK b) (0+a.toNat*1)=some (.bool (b.getD a.toNat false)):=je hw (acI (by omega) (by omega))
def sk(l:List Int)(x:Int):Bool:=l.any fun z=>decide (x=z)
theorem Cu{l:List Int}{x:Int}:sk l x=true↔x∈l:=by unfold sk;simp
theorem Lb(l:List Int):(ao l).length=l.length:=cd _
def AN(n:Int)(l:List bC)(a b:Int):Bool:=sk (Ls n l [a]) b
def Lt(n:Int)(l:List bC)(a:Int)(k:Nat):List Int:=((List.range k).filter fun b:Nat=>AN n l a b&&AN n l b a).map fun i:Nat=>(i:Int)
def qU(n:Int)(l:List bC)(a:Int):List Int:=Lt n l a n.toNat
def Md(l:List bC)(part told:List Int):Bool:=l.all fun e=> !(sk part e.2.1&&!sk part e.1&&!sk told e.1)
theorem JM{b:List Bool}{i j:Nat}{x:Bool}:(b.set i x).getD j false=if i=j∧j<b.length then x else b.getD j false:=by
 simp only[aW,eR]
 by_cases h:i=j
 ·subst h
  by_cases h2:i<b.length
  ·simp[h2]
  ·simp[h2]
 ·simp[h]
theorem YL{n:Nat}{l:List bC}{a z:Int}:z∈qU n l a↔∃i:Nat,i<n∧(AN n l a i&&AN n l i a)=true∧z=i:=by
 unfold qU Lt
 rw[dX,bM]
 constructor
 ·rintro⟨i,hi,rfl⟩
  rw[nD,gw]at hi
  exact⟨i,hi.1,hi.2,rfl⟩
 ·rintro⟨i,h1,h2,rfl⟩
  exact⟨i,by rw[nD,gw];exact⟨h1,h2⟩,rfl⟩
def cy(ps:List (List Int)):List AV:=ps.map (.af (.int .i64))
theorem wh:∀ps:List (List Int),cy ps=ps.flatMap (Sh.cells (.slice (.int .i64)))
 | []=>rfl
 |p::ps=>congrArg (AV.af (.int .i64) p :: ·) (wh ps)
theorem S1{nx:List Int}(h:0<nx.length):nx[((0:Int)).toNat]?=some (nx.headD 0):=by
 cases nx with
 |nil=>simp at h
 |cons z nx=>rfl
end Go.Proofs.YtnikdflhefijbaaGreat
namespace Go.Proofs.YtnikdflhefijbaaGreat
open Go.Shelf
def WM:Go.Shelf.Ren:=⟨fun | 189=>312 | 125=>233 | 257=>338 | 128=>274 | 129=>275 | 294=>346 | 295=>347 | 296=>348 | 297=>349 | 298=>350 | 299=>351 | 216=>352 | 300=>353 | 301=>354 | 328=>360 | 329=>296 | 330=>297 | 331=>361 | 332=>362 | 215=>234 | 343=>365 | n=>n,fun | 28=>23 | 3=>3 | 46=>253 | 0=>0 | 51=>284 | 53=>56 | 4=>4 | 183=>308 | 182=>307 | 131=>312 | 5=>5 | 9=>9 | 218=>331 | 222=>335 | 228=>353 | 229=>50 | n=>n,fun | n=>n⟩
theorem K7:Go.Proofs.Lays.n189 Tryz.prog WM:= {
 mixed:=by kernel_rfl
 f125:=Tryz.func233.trans (congrArg some (by kernel_rfl))
 f128:=Tryz.func274.trans (congrArg some (by kernel_rfl))
 f129:=Tryz.func275.trans (congrArg some (by kernel_rfl))
 f189:=Tryz.func312.trans (congrArg some (by kernel_rfl))
 f215:=Tryz.func234.trans (congrArg some (by kernel_rfl))
 f216:=Tryz.func352.trans (congrArg some (by kernel_rfl))
 f257:=Tryz.func338.trans (congrArg some (by kernel_rfl))
 f294:=Tryz.func346.trans (congrArg some (by kernel_rfl))
 f295:=Tryz.func347.trans (congrArg some (by kernel_rfl))
 f296:=Tryz.func348.trans (congrArg some (by kernel_rfl))
 f297:=Tryz.func349.trans (congrArg some (by kernel_rfl))
 f298:=Tryz.func350.trans (congrArg some (by kernel_rfl))
 f299:=Tryz.func351.trans (congrArg some (by kernel_rfl))
 f300:=Tryz.func353.trans (congrArg some (by kernel_rfl))
 f301:=Tryz.func354.trans (congrArg some (by kernel_rfl))
 f328:=Tryz.func360.trans (congrArg some (by kernel_rfl))
 f329:=Tryz.func296.trans (congrArg some (by kernel_rfl))
 f330:=Tryz.func297.trans (congrArg some (by kernel_rfl))
 f331:=Tryz.func361.trans (congrArg some (by kernel_rfl))
 f332:=Tryz.func362.trans (congrArg some (by kernel_rfl))
 f343:=Tryz.func365.trans (congrArg some (by kernel_rfl))
 t0:=Tryz.underlying0
 a0:=Tryz.isAgg0
 z0:=Tryz.sizeOf0
 v0:=Tryz.zeroValue0
 t3:=Tryz.underlying3
 a3:=Tryz.isAgg3
 z3:=Tryz.sizeOf3
 v3:=Tryz.zeroValue3
 t4:=Tryz.underlying4
 a4:=Tryz.isAgg4
 z4:=Tryz.sizeOf4
 v4:=Tryz.zeroValue4
 t5:=Tryz.underlying5
 a5:=Tryz.isAgg5
 z5:=Tryz.sizeOf5
 v5:=Tryz.zeroValue5
 t9:=Tryz.underlying9
 a9:=Tryz.isAgg9
 z9:=Tryz.sizeOf9
 v9:=Tryz.zeroValue9
 t28:=Tryz.underlying23
 a28:=Tryz.isAgg23
 z28:=Tryz.sizeOf23
 v28:=Tryz.zeroValue23
 t46:=Tryz.underlying253
 a46:=Tryz.isAgg253
 z46:=Tryz.sizeOf253
 v46:=Tryz.zeroValue253
 t51:=Tryz.underlying284
 a51:=Tryz.isAgg284
 z51:=Tryz.sizeOf284
 v51:=Tryz.zeroValue284
 t53:=Tryz.underlying56
 a53:=Tryz.isAgg56
 z53:=Tryz.sizeOf56
 v53:=Tryz.zeroValue56
 t131:=Tryz.underlying312
 a131:=Tryz.isAgg312
 z131:=Tryz.sizeOf312
 v131:=Tryz.zeroValue312
 t182:=Tryz.underlying307
 a182:=Tryz.isAgg307
 z182:=Tryz.sizeOf307
 v182:=Tryz.zeroValue307
 t183:=Tryz.underlying308
 a183:=Tryz.isAgg308
 z183:=Tryz.sizeOf308
 v183:=Tryz.zeroValue308
 t218:=Tryz.underlying331
 a218:=Tryz.isAgg331
 z218:=Tryz.sizeOf331
 v218:=Tryz.zeroValue331
 t222:=Tryz.underlying335
 a222:=Tryz.isAgg335
 z222:=Tryz.sizeOf335
 v222:=Tryz.zeroValue335
 t228:=Tryz.underlying353
 a228:=Tryz.isAgg353
 z228:=Tryz.sizeOf353
 v228:=Tryz.zeroValue353
 t229:=Tryz.underlying50
 a229:=Tryz.isAgg50
 z229:=Tryz.sizeOf50
 v229:=Tryz.zeroValue50 }
def WL:Go.Shelf.Ren:=⟨fun | 20=>313 | n=>n,fun | 22=>23 | 3=>3 | 4=>4 | 0=>0 | n=>n,fun | n=>n⟩
theorem K6:Go.Proofs.Lays2.n20 Tryz.prog WL:= {
 mixed:=by kernel_rfl
 f20:=Tryz.func313.trans (congrArg some (by kernel_rfl))
 t0:=Tryz.underlying0
 a0:=Tryz.isAgg0
 z0:=Tryz.sizeOf0
 v0:=Tryz.zeroValue0
 t3:=Tryz.underlying3
 a3:=Tryz.isAgg3
 z3:=Tryz.sizeOf3
 v3:=Tryz.zeroValue3
 t4:=Tryz.underlying4
 a4:=Tryz.isAgg4
 z4:=Tryz.sizeOf4
 v4:=Tryz.zeroValue4
 t22:=Tryz.underlying23
 a22:=Tryz.isAgg23
 z22:=Tryz.sizeOf23
 v22:=Tryz.zeroValue23
 i3:=by kernel_rfl }
end Go.Proofs.YtnikdflhefijbaaGreat
