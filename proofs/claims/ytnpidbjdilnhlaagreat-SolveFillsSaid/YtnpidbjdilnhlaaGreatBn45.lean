import Derived.Test.YtnpidbjdilnhlaaGreatBn44
import Derived.Test.YtnpidbjdilnhlaaGreatBn27
import Derived.Test.YtnpidbjdilnhlaaGreatBn22
import Derived.Test.YtnpidbjdilnhlaaGreatBn39
namespace Go.Proofs.YtnpidbjdilnhlaaGreat
open Go.RowKit
set_option maxRecDepth 100000
set_option maxHeartbeats 4000000
theorem IU{nx:Int→List Int}{a:Int}{met:List Int}:dF nx 0 a met=[]:=by unfold dF;rfl
theorem UG{nx:Int→List Int}{f:Nat}{a:Int}{met:List Int}(h:a∈met):dF nx (f+1) a met=[]:=by unfold dF;rw[if_pos h]
theorem SO{nx:Int→List Int}{f:Nat}{a:Int}{met:List Int}(h:¬a∈met):dF nx (f+1) a met=b9 nx f (nx a) (met++[a])++[a]:=by
 conv=>lhs;unfold dF
 rw[if_neg h]
theorem Rv{nx:Int→List Int}{f:Nat}{b:Int}{bs met:List Int}:b9 nx f (b::bs) met=dF nx f b met++b9 nx f bs (met++dF nx f b met):=by
 conv=>lhs;unfold b9
abbrev VwS:=Nat×List Int×AV×Hp×AV×Hp
def VT(n:Nat)(l:List aK)(f:Nat)(a:Int)(met:List Int)(acc σ:Hp):AV→Hp→Prop:=fun r σ'=>∃o:List Int,r=.af (.int .i64) o∧σ'=acc++σ∧gn n (met++o)∧o=dF (au n l) f a met
theorem JP(n:Nat)(l:List aK)(hl:l.length≤100000)(hn:n≤256):∀(f deep:Nat),n+1-deep=f→deep≤n+1→∀(a:Int) (met:List Int) (v:AV) (acc σ:Hp),(0≤a∧a<n)→gn n met→Acc 1 met.length v acc (ak met)→ACalls Tryz.prog 262 [.int .i64 n,.af bA l,.int .i64 a,v,.int .i64 deep] (acc++σ) (VT n l f a met acc σ):=by
 intro f
 induction f with
 | zero =>
  intro deep hf hd a met v acc σ ha tE h
  have pL:=tE.len
  have h2:=h
  generalize hk:met.length=k at h2
  generalize hc:ak met=cs at h2
  cases h2
  all_goals
   first | subst hc | clear hc
   refine okF Tryz.func262 (by kernel_rfl) ?_
   refine xn [] (fun σ=>Bh met a σ (by omega) h) (fun c1 =>?_) (fun c1 =>?_)
   ·exact .nil (.nil _) (.done ⟨[],rfl,rfl,by rw[List.append_nil];exact tE,IU.symm⟩)
   refine an (p:=(n:Int)<(deep:Int)) (fun c2 =>?_) (fun c2=>absurd c2 (by omega))
   exact .nil (.nil _) (.done ⟨[],rfl,rfl,by rw[List.append_nil];exact tE,IU.symm⟩)
 | succ f ih =>
  intro deep hf hd a met v acc σ ha tE h
  have pL:=tE.len
  have h2:=h
  generalize hk:met.length=k at h2
  generalize hc:ak met=cs at h2
  cases h2
  all_goals
   first | subst hc | clear hc
   refine okF Tryz.func262 (by kernel_rfl) ?_
   refine xn [] (fun σ=>Bh met a σ (by omega) h) (fun c1 =>?_) (fun c1 =>?_)
   ·exact .nil (.nil _) (.done ⟨[],rfl,rfl,by rw[List.append_nil];exact tE,(UG (qf.1 c1)).symm⟩)
   refine an (p:=(n:Int)<(deep:Int)) (fun c2=>absurd c2 (by omega)) (fun c2 =>?_)
   intro aC
   refine AppendAt.more 0 aC 0 met.length [] _ rfl rfl (Nat.le_of_ble_eq_true rfl) (TZ [_] σ h) (by omega) (by decide) (by decide) (fun b2 =>?_)
   intro rq
   refine AppendAt.more 1 b2 (0+met.length) 1 _ _ rfl rfl (VZ met) (.ae 0 _ 0 1 _ rfl (Nat.le_of_ble_eq_true rfl)) (by omega) (by decide) (by decide) (fun b4 =>?_)
   have Gg:=UK met a b4
   have hna:¬a∈met:=fun h=>by rw[qf.2 h]at c1;cases c1
   refine az [] (VD n l a _ hl (by omega)) ?_
   refine .cz (.drop 1 1 (.refl _)) ?_
   refine .wrap 12 _ rfl rfl ?_
   refine .wrap 11 _ rfl rfl ?_
   have sn:∀z∈au n l a,0≤z∧z<n:=fun z hz=>(iv.1 hz).1
   have tW:=rC n l a
   generalize bF:au n l a=nx at sn tW
   have q9:=aI (k:=deep) (by omega)
   refine aU (S:=VwS) (fun s=>[(0,.int .i64 n),(1,.af bA l),(2,.int .i64 a),(4,.int .i64 deep),(11,.via s.2.2.1),(12,.via s.2.2.2.2.1),(33,.af (.int .i64) nx),(34,.int .i64 nx.length),(35,.int .i64 s.1)]) (fun s=>s.2.2.2.1++(s.2.2.2.2.2++(_++σ))) (fun s=>X4 n nx met a s∧b9 (au n l) f nx (met++[a])=s.2.1++b9 (au n l) f (nx.drop s.1) (met++[a]++s.2.1)) (fun s=>nx.length-s.1) (0,[],.ae b4 0 (0+met.length+1) 1,[(b4,Fu met a)],.aj,[]) ⟨⟨⟨Nat.zero_le _,by rw[List.append_nil];exact tE.snoc hna ha,by rw[List.append_nil];exact Gg,.nil⟩,by show _=[]++b9 (au n l) f (nx.drop 0) (met++[a]++[]);rw[List.append_nil];rfl⟩,⟨rfl,rfl,rfl,rfl,rfl,rfl,rfl,rfl,rfl,trivial⟩,rfl⟩ ?_
   rintro⟨k,o,v1,a1,v2,a2⟩ g ⟨⟨aG,sH,sK,sJ⟩,jN⟩
   have hk:k≤nx.length:=aG
   have hN:gn n (met++[a]++o):=sH
   have h1:Acc 1 (met++[a]++o).length v1 a1 (ak (met++[a]++o)):=sK
   have h2:Acc 1 o.length v2 a2 (ak o):=sJ
   have hX:b9 (au n l) f nx (met++[a])=o++b9 (au n l) f (nx.drop k) (met++[a]++o):=jN
   clear aG sH sK sJ jN
   have hN1:=hN.len
   have gj:o.length≤n:=hN.right.len
   refine an (p:=(k:Int)<(nx.length:Int)) (fun ab =>?_) (fun aq =>?_)
   rotate_left
   ·intro pS
    refine dX ((pS,[.int .i64 a])::a1) h2 (.ae 0 pS 0 1 _ rfl (Nat.le_of_ble_eq_true rfl)) rfl (by omega) (by decide) (by decide) (fun v' aP h' =>?_)
    have hlen:o.length+1=(o++[a]:List Int).length:=by simp
    refine jR (s:=.int .i64) (l:=(o++[a]:List Int)) ((pS,[.int .i64 a])::a1) h' hlen (by rw[← fi,show ak (o++[a])=ak o++[.int .i64 a] from List.map_append];rfl) (by decide) ?_
    refine .drop 0 1 (HH a1 (.done ⟨o++[a],rfl,rfl,hN.perm ?_,?_⟩))
    rotate_left
    ·have aq:¬(k:Int)<(nx.length:Int):=aq
     rw[List.drop_of_length_le (by omega),show b9 (au n l) f [] (met++[a]++o)=[] by unfold b9;rfl,List.append_nil]at hX
     rw[← hX,← bF]
     exact (SO hna).symm
    rw[List.append_assoc]
    exact List.Perm.append_left _ List.perm_append_comm
   have ab:k<nx.length:=by omega
   obtain⟨z,hz⟩:∃z,nx[k]=z:=⟨_,rfl⟩
   have dH:=sn z (hz▸List.getElem_mem ab)
   refine ah.mk rfl (aT.mk z (by omega) ((get_some ab).trans (congrArg some hz)) ?_)
   have hih:=fun σ=>ih (deep+1) (by omega) (by omega) z (met++[a]++o) v1 a1 σ dH hN h1
   rw[← q9]at hih
   refine .mk [] _ (hih _) ?_
   rintro _ _ ⟨more,rfl,rfl,sG,ub⟩
   have yW:=sG.len
   rw[List.length_append]at yW
   refine dX a1 h2 (.af (.int .i64) more rfl) (by rw[← fi,nO];exact (Nat.mul_one _).symm) (show o.length+more.length≤1048576 by omega) (by decide) (by decide) (fun ou oQ oL =>?_)
   refine dX [] h1 (.af (.int .i64) more rfl) (by rw[← fi,nO];exact (Nat.mul_one _).symm) (show (met++[a]++o).length+more.length≤1048576 by omega) (by decide) (by decide) (fun ym we Cd =>?_)
   refine aH (k+1,o++more,ym,we,ou,oQ) (by show nx.length-(k+1)<nx.length-k;omega) ⟨⟨ab,?_,?_,?_⟩,?_⟩ ⟨rfl,rfl,rfl,rfl,rfl,rfl,rfl,rfl,aI (by omega),trivial⟩ (.refl _)
   ·show gn n (met++[a]++(o++more))
    rw[← List.append_assoc];exact sG
   ·show Acc 1 (met++[a]++(o++more)).length ym we (ak (met++[a]++(o++more)))
    rw[← List.append_assoc,List.length_append (bs:=more),ak,List.map_append (l₂:=more)]
    rw[← fi]at Cd
    exact Cd
   ·show Acc 1 (o++more).length ou oQ (ak (o++more))
    rw[List.length_append,ak,List.map_append]
    rw[← fi]at oL
    exact oL
   ·show b9 (au n l) f nx (met++[a])=(o++more)++b9 (au n l) f (nx.drop (k+1)) (met++[a]++(o++more))
    rw[hX,List.drop_eq_getElem_cons ab,hz,Rv,← ub]
    simp only[List.append_assoc]
theorem Up(n:Nat)(l:List aK)(fr:List Int)(σ:Hp)(hl:l.length≤100000)(hn:n≤256)(hf:fr.length≤100000)(jL:∀z∈fr,0≤z∧z<n):ACalls Tryz.prog 212 [.int .i64 n,.af bA l,.af (.int .i64) fr] σ (fun r σ'=>r=.af (.int .i64) (gH n l fr)∧σ'=σ∧gn n (gH n l fr)):=by
 refine okF Tryz.func212 (by kernel_rfl) ?_
 refine .wrap 7 _ rfl rfl ?_
 refine aU (S:=Nat×List Int×AV×Hp) (fun s=>[(0,.int .i64 n),(1,.af bA l),(7,.via s.2.2.1),(11,.af (.int .i64) fr),(12,.int .i64 fr.length),(13,.int .i64 s.1)]) (fun s=>s.2.2.2++σ) (fun s=>s.1≤fr.length∧(gn n s.2.1∧s.2.1=jy n (au n l) (fr.take s.1))∧Acc 1 s.2.1.length s.2.2.1 s.2.2.2 (ak s.2.1)) (fun s=>fr.length-s.1) (0,[],.aj,[]) ⟨⟨Nat.zero_le _,⟨gn.nil n,rfl⟩,.nil⟩,⟨rfl,rfl,rfl,rfl,rfl,rfl,trivial⟩,rfl⟩ ?_
 rintro⟨k,o,v,acc⟩ g ⟨aG,⟨sH,jN⟩,h0⟩
 have hX:o=jy n (au n l) (fr.take k):=jN
 have hk:k≤fr.length:=aG
 have hN:gn n o:=sH
 have h:Acc 1 o.length v acc (ak o):=h0
 clear aG sH h0
 refine an (p:=(k:Int)<(fr.length:Int)) (fun ab =>?_) (fun aq =>?_)
 ·have ab:k<fr.length:=by omega
  obtain⟨z,hz⟩:∃z,fr[k]=z:=⟨_,rfl⟩
  have dH:=jL z (hz▸List.getElem_mem ab)
  refine ah.mk rfl (aT.mk z (by omega) ((get_some ab).trans (congrArg some hz)) ?_)
  refine .mk [] _ (JP n l hl hn (n+1) 0 rfl (Nat.zero_le _) z o v acc _ dH hN h) ?_
  rintro _ _ ⟨more,rfl,rfl,sG,ub⟩
  have yW:=sG.len
  rw[List.length_append]at yW
  refine dX [] h (.af (.int .i64) more rfl) (by rw[← fi,nO];exact (Nat.mul_one _).symm) (show o.length+more.length≤1048576 by omega) (by decide) (by decide) (fun ou oQ oL =>?_)
  refine aH (k+1,o++more,ou,oQ) (by show fr.length-(k+1)<fr.length-k;omega) ⟨ab,⟨sG,by show o++more=jy n (au n l) (fr.take (k+1));rw[List.take_succ_eq_append_getElem ab,zI,← hX,hz,ub]⟩,?_⟩ ⟨rfl,rfl,rfl,rfl,rfl,aI (by omega),trivial⟩ (.refl _)
  show Acc 1 (o++more).length ou oQ (ak (o++more))
  rw[List.length_append,ak,List.map_append]
  rw[← fi]at oL
  exact oL
 ·refine aU (S:=Nat×List Int×AV×Hp) (fun s=>[(0,.int .i64 n),(1,.af bA l),(7,.via s.2.2.1),(10,.int .i64 s.1)]) (fun s=>s.2.2.2++σ) (fun s=>s.1≤n∧(gn n s.2.1∧s.2.1=jy n (au n l) (fr++(List.range s.1).map fun a:Nat=>(a:Int)))∧Acc 1 s.2.1.length s.2.2.1 s.2.2.2 (ak s.2.1)) (fun s=>n-s.1) (0,o,v,acc) ⟨⟨Nat.zero_le _,⟨hN,by have aq:¬(k:Int)<(fr.length:Int):=aq;rw[List.take_of_length_le (by omega)]at hX;show o=jy n (au n l) (fr++(List.range 0).map fun a:Nat=>(a:Int));rw[hX];simp⟩,h⟩,⟨rfl,rfl,rfl,rfl,trivial⟩,rfl⟩ ?_
  clear h hN hk aq hX
  rintro⟨k,o,v,acc⟩ g ⟨aG,⟨sH,jN⟩,h0⟩
  have hX:o=jy n (au n l) (fr++(List.range k).map fun a:Nat=>(a:Int)):=jN
  have hk:k≤n:=aG
  have hN:gn n o:=sH
  have h:Acc 1 o.length v acc (ak o):=h0
  clear aG sH h0
  refine an (p:=(k:Int)<(n:Int)) (fun ab =>?_) (fun aq =>?_)
  ·have ab:k<n:=by omega
   refine .mk [] _ (JP n l hl hn (n+1) 0 rfl (Nat.zero_le _) k o v acc _ (by omega) hN h) ?_
   rintro _ _ ⟨more,rfl,rfl,sG,ub⟩
   have yW:=sG.len
   rw[List.length_append]at yW
   refine dX [] h (.af (.int .i64) more rfl) (by rw[← fi,nO];exact (Nat.mul_one _).symm) (show o.length+more.length≤1048576 by omega) (by decide) (by decide) (fun ou oQ oL =>?_)
   refine aH (k+1,o++more,ou,oQ) (by show n-(k+1)<n-k;omega) ⟨ab,⟨sG,by show o++more=jy n (au n l) (fr++(List.range (k+1)).map fun a:Nat=>(a:Int));rw[List.range_succ,List.map_append,← List.append_assoc,show List.map (fun a:Nat=>(a:Int)) [k]=[(k:Int)] from rfl,zI,← hX,ub]⟩,?_⟩ ⟨rfl,rfl,rfl,aI (by omega),trivial⟩ (.refl _)
   show Acc 1 (o++more).length ou oQ (ak (o++more))
   rw[List.length_append,ak,List.map_append]
   rw[← fi]at oL
   exact oL
  ·have aq:¬(k:Int)<(n:Int):=aq
   have eM:k=n:=by omega
   subst eM
   have hX:o=gH k l fr:=hX
   rw[← hX]
   exact jR (s:=.int .i64) [] h rfl (fi _) (by decide) (.done ⟨rfl,rfl,hN⟩)
theorem Sm(n:Nat)(l:List aK)(fr:List Int)(σ:Hp)(hl:l.length≤100000)(hn:n≤256)(hf:fr.length≤100000)(jL:∀z∈fr,0≤z∧z<n):ACalls Tryz.prog 158 [.int .i64 n,.af bA l,.af (.int .i64) fr] σ (fun r σ'=>r=.af (.int .i64) (iY n (gH n l fr))∧σ'=σ):=by
 refine okF Tryz.func158 (by kernel_rfl) ?_
 refine ah.mk ⟨by omega,by omega,by omega,by decide⟩ ?_
 intro bq
 refine .mk [] _ (Up n l fr _ hl hn hf jL) ?_
 rintro _ τ ⟨rfl,sm,hN⟩
 subst τ
 have hA:ft n (gH n l fr):=⟨hN.1,hN.2,fun x hx=>Ib hx⟩
 generalize gH n l fr=po at hN hA
 have hlen:=hA.len
 have jd:=hN.len
 refine aU (S:=Nat) (fun s=>[(0,.int .i64 n),(7,.ae bq 0 n 1),(15,.af (.int .i64) po),(16,.int .i64 po.length),(17,.int .i64 s)]) (fun s=>(bq,ak (kv n po s))::σ) (fun s=>s≤po.length) (fun s=>po.length-s) 0 ⟨Nat.zero_le _,⟨rfl,rfl,rfl,rfl,rfl,trivial⟩,by rw[show ak (kv n po 0)=bN [.int .i64 0] n from (p8 n).symm];rfl⟩ ?_
 intro i g hi
 have hi:i≤po.length:=hi
 have ho:=oU n po i
 refine an (p:=(i:Int)<(po.length:Int)) (fun ab =>?_) (fun aq =>?_)
 rotate_left
 ·have aq:po.length=i:=by omega
  subst aq
  refine .bO 0 bq 0 n 1 _ (.int .i64) (iY n po) rfl (by rw[List.drop_zero,List.take_of_length_le (by rw[jm,oU,Nat.mul_one];exact Nat.le_refl _),hlen];exact fi _) ⟨oU n po n,rfl,by decide⟩ .here (.done ⟨rfl,rfl⟩)
 have ab:i<po.length:=by omega
 have dH:=hN.2 _ (List.getElem_mem ab)
 have hv:IntKind.i64.wrap (IntKind.i64.wrap ((n:Int)-1)-(i:Int))=(n:Int)-1-(i:Int):=by rw[IntKind.wrap_i64,IntKind.wrap_i64];omega
 have iF:kv n po (i+1)=(kv n po i).set po[i].toNat ((n:Int)-1-(i:Int)):=by
  show (kv n po i).set (po.getD i 0).toNat _=_
  rw[List.getD_eq_getElem?_getD,List.getElem?_eq_getElem ab];rfl
 refine ah.mk rfl (aT.mk po[i] (by omega) (get_some ab) ?_)
 refine ah.mk ⟨rfl,by omega,by omega⟩ ?_
 refine ai.mk 0 _ _ rfl (jw rfl _ dH.1 (by omega)) ?_
 exact aH (i+1) (by show po.length-(i+1)<po.length-i;omega) ab ⟨rfl,rfl,rfl,rfl,aI (by omega),trivial⟩ (aF (by rw[hv,← iF];rfl))
end Go.Proofs.YtnpidbjdilnhlaaGreat
namespace Go.Proofs.YtnpidbjdilnhlaaGreat
open Go.RowKit
set_option maxRecDepth 100000
set_option maxHeartbeats 4000000
def lX(n:Nat)(l:List aK)(ps:List (List Int))(told:List Int):Prop:=∀f,kP n l (ps.length+f) ([],[])=kP n l f (ps,told)
theorem lX.nil(n:Nat)(l:List aK):lX n l [] []:=fun f=>by rw[List.length_nil,Nat.zero_add]
theorem lX.done{n:Nat}{l:List aK}{ps:List (List Int)}{told:List Int}(h:lX n l ps told)(hle:ps.length≤n)(hs:∀f,kP n l f (ps,told)=(ps,told)):ps=eI n l:=by
 unfold eI
 have:=h (n+1-ps.length)
 rw[show ps.length+(n+1-ps.length)=n+1 by omega,hs]at this
 rw[this]
theorem PD{n:Nat}{l:List aK}{ps:List (List Int)}{told:List Int}(h:¬told.length<n):∀f,kP n l f (ps,told)=(ps,told)
 | 0=>rfl
 | f+1=>by
  unfold kP
  rw[if_neg h]
theorem PC{n:Nat}{l:List aK}{ps:List (List Int)}{told:List Int}(h:∀b,b<n→iU n l told b=false):∀f,kP n l f (ps,told)=(ps,told)
 | 0=>rfl
 | f+1=>by
  unfold kP
  split
  ·have:(List.range n).find? (iU n l told)=none:=List.find?_eq_none.2 fun b hb=>by rw[h b (List.mem_range.1 hb)];simp
   show (match (List.range n).find? (iU n l told) with | none=>(ps,told) | some a=>kP n l f (ps++[dr n l a],told++dr n l a))=_
   rw[this]
  ·rfl
theorem lX.step{n:Nat}{l:List aK}{ps:List (List Int)}{told:List Int}{k:Nat}(h:lX n l ps told)(ht:told.length<n)(hk:k<n)(hc:∀b,b<k→iU n l told b=false)(hb:iU n l told k=true):lX n l (ps++[dr n l k]) (told++dr n l k):=fun f=>by
 have e:(List.range n).find? (iU n l told)=some k:=HG hk hb hc
 have:=h (f+1)
 rw[List.length_append,show ps.length+[dr n l k].length+f=ps.length+(f+1) by show ps.length+1+f=_;omega,this]
 show (if told.length<n then (match (List.range n).find? (iU n l told) with | none=>(ps,told) | some a=>kP n l f (ps++[dr n l a],told++dr n l a)) else (ps,told))=_
 rw[if_pos ht,e]
theorem CC:∀{Q:List (List Int)},(∀p∈Q,0<p.length)→Q.length≤Q.flatten.length
 | [],_=>Nat.le_refl _
 | p::Q,h=>by
  have ih:=CC (Q:=Q) fun q hq=>h q (List.mem_cons_of_mem _ hq)
  have:=h p (List.mem_cons_self ..)
  rw[List.flatten_cons,List.length_append,List.length_cons]
  omega
theorem jl.LD{n:Nat}{ps:List (List Int)}{told:List Int}(h:jl n ps told):ps.length≤n:=by
 rcases Nat.eq_zero_or_pos ps.length with h0 | h0
 ·omega
 ·have h1:=h.ahead (ps.length-1) (by omega)
  have h2:=CC (Q:=ps.take (ps.length-1)) fun p hp=>(h.ne p (List.mem_of_mem_take hp)).1
  rw[List.length_take]at h2
  omega
theorem L3(n:Nat)(l:List aK)(σ:Hp)(hl:l.length≤100000)(hn:n≤256):ACalls Tryz.prog 157 [.int .i64 n,.af bA l] σ (fun r σ'=>r=.af (.slice (.int .i64)) (eI n l)∧σ'=σ∧∃told,jl n (eI n l) told):=by
 refine okF Tryz.func157 (by kernel_rfl) ?_
 refine .wrap 5 _ rfl rfl ?_
 refine .wrap 6 _ rfl rfl ?_
 have kp:∀s:zu,BM n s→s.1.length≤n→lX n l s.1 s.2.2.2.1→(∀f,kP n l f (s.1,s.2.2.2.1)=(s.1,s.2.2.2.1))→Fin (fun r σ'=>r=.af (.slice (.int .i64)) (eI n l)∧σ'=σ∧∃told,jl n (eI n l) told) s.2.1 (Fy s σ):=fun s ⟨h1,h2,h3⟩ hle hx hs =>
  jR (s:=.slice (.int .i64)) [] h2 rfl (p9 _) (by decide) (HH s.2.2.2.2.2 (.done ⟨by rw[hx.done hle hs],rfl,s.2.2.2.1,(hx.done hle hs)▸h1⟩))
 refine aU (S:=zu) (fun s=>[(0,.int .i64 n),(1,.af bA l),(5,.via s.2.1),(6,.via s.2.2.2.2.1)]) (fun s=>Fy s σ) (fun s=>BM n s∧lX n l s.1 s.2.2.2.1) (fun s=>n-s.2.2.2.1.length) ([],.aj,[],[],.aj,[]) ⟨⟨⟨jl.nil n,.nil,.nil⟩,lX.nil n l⟩,⟨rfl,rfl,rfl,rfl,trivial⟩,rfl⟩ ?_
 rintro⟨ps,v1,a1,jx,v2,a2⟩ g ⟨⟨y4,sK,sJ⟩,jN⟩
 have hX:lX n l ps jx:=jN
 clear jN
 have hI:jl n ps jx:=y4
 have h1:Acc 1 ps.length v1 a1 (bE ps):=sK
 have h2:Acc 1 jx.length v2 a2 (ak jx):=sJ
 clear y4 sK sJ
 have Gy:=h2
 generalize cD:jx.length=k2 at Gy
 generalize re:ak jx=c2 at Gy
 cases Gy
 all_goals
  first | subst re | clear re
  refine an (fun c =>?_) (fun c =>?_)
  rotate_left
  ·exact kp (ps,v1,a1,jx,_,_) ⟨hI,h1,h2⟩ hI.LD hX (PD (ps:=ps) (told:=jx) (by first | (have c:¬(0:Int)<n:=c;omega) | (have c:¬((k2:Nat):Int)<n:=c;omega)))
  have ab:jx.length<n:=by first | (have c:(0:Int)<n:=c;omega) | (have c:((k2:Nat):Int)<n:=c;omega)
  clear c cD
  refine aU (S:=Nat×Bool×zu) (fun s=>[(0,.int .i64 n),(1,.af bA l),(5,.via s.2.2.2.1),(6,.via s.2.2.2.2.2.2.1),(7,.bool s.2.1),(8,.int .i64 s.1)]) (fun s=>Fy s.2.2 σ) (fun s=>s.1≤n∧(BM n s.2.2∧lX n l s.2.2.1 s.2.2.2.2.2.1∧(s.2.1=false→∀b,b<s.1→iU n l s.2.2.2.2.2.1 b=false))∧(s.2.1=false→s.2.2.2.2.2.1.length=jx.length)∧(s.2.1=true→jx.length<s.2.2.2.2.2.1.length)) (fun s=>n-s.1) (0,false,ps,v1,a1,jx,_,_) ⟨⟨Nat.zero_le _,⟨⟨hI,h1,h2⟩,hX,fun _ b hb=>absurd hb (Nat.not_lt_zero b)⟩,fun _=>rfl,fun h=>by cases h⟩,⟨rfl,rfl,rfl,rfl,rfl,rfl,trivial⟩,rfl⟩ ?_
  clear h1 h2 hI hX
  rintro⟨k,Cf,ps,v1,a1,told,v2,a2⟩ g2 ⟨aG,⟨⟨y4,sK,sJ⟩,jN,hC0⟩,hf0,eV⟩
  have hX:lX n l ps told:=jN
  have hC:Cf=false→∀b,b<k→iU n l told b=false:=hC0
  clear jN hC0
  have hk:k≤n:=aG
  have hI:jl n ps told:=y4
  have h1:Acc 1 ps.length v1 a1 (bE ps):=sK
  have h2:Acc 1 told.length v2 a2 (ak told):=sJ
  have hf:Cf=false→told.length=jx.length:=hf0
  have ht:Cf=true→jx.length<told.length:=eV
  clear aG y4 sK sJ hf0 eV
  cases Cf with
  | true =>
   have ua:=ht rfl
   refine an (fun c1 =>?_) (fun c1 =>?_)
   all_goals exact aH (ps,v1,a1,told,v2,a2) (by show n-told.length<n-jx.length;omega) ⟨⟨hI,h1,h2⟩,hX⟩ ⟨rfl,rfl,rfl,rfl,trivial⟩ (.refl _)
  | false =>
   have fy:=hf rfl
   clear hf ht
   have hC:=hC rfl
   have ua:=hI.qy
   have jd:=hI.EW
   refine an (p:=(k:Int)<(n:Int)) (fun c1 =>?_) (fun c1 =>?_)
   rotate_left
   ·exact kp (ps,v1,a1,told,v2,a2) ⟨hI,h1,h2⟩ hI.LD hX (PC (fun b hb=>hC b (by omega)))
   have eM:k<n:=by omega
   have sr:=PK (l:=l) eM
   have nu:=NN n l k
   have nw:(dr n l k)[((0:Int)).toNat]?=some ((dr n l k).headD 0):=DN sr
   have bF:iU n l told k=false→k+1≤n∧(BM n (ps,v1,a1,told,v2,a2)∧lX n l ps told∧((false:Bool)=false→∀b,b<k+1→iU n l told b=false))∧((false:Bool)=false→told.length=jx.length)∧((false:Bool)=true→jx.length<told.length):=fun hc=>⟨eM,⟨⟨hI,h1,h2⟩,hX,fun _ b hb=>(Nat.lt_succ_iff_lt_or_eq.1 hb).elim (hC b) fun e=>e▸hc⟩,fun _=>fy,fun h=>by cases h⟩
   refine az [] (Vz n l k _ hl (by omega)) ?_
   refine ah.mk rfl (aT.mk _ (by decide) nw ?_)
   refine an (p:=(dr n l k).headD 0=(k:Int)) (fun c2 =>?_) (fun c2 =>?_)
   rotate_left
   ·exact aH (k+1,false,ps,v1,a1,told,v2,a2) (by show n-(k+1)<n-k;omega) (bF (by unfold iU;rw[decide_eq_false c2];rfl)) ⟨rfl,rfl,rfl,rfl,rfl,aI (by omega),trivial⟩ (.refl _)
   refine xn a1 (fun σ=>Bh told k σ (by omega) h2) (fun c3 =>?_) (fun c3 =>?_)
   ·exact aH (k+1,false,ps,v1,a1,told,v2,a2) (by show n-(k+1)<n-k;omega) (bF (by unfold iU;rw[show fG told k=true from c3];simp)) ⟨rfl,rfl,rfl,rfl,rfl,aI (by omega),trivial⟩ (.refl _)
   refine xn a1 (fun σ=>VG l (dr n l k) told σ hl (by omega) (by omega) h2) (fun c4 =>?_) (fun c4 =>?_)
   rotate_left
   ·exact aH (k+1,false,ps,v1,a1,told,v2,a2) (by show n-(k+1)<n-k;omega) (bF (by unfold iU;rw[show mZ l (dr n l k) told=false from c4];simp)) ⟨rfl,rfl,rfl,rfl,rfl,aI (by omega),trivial⟩ (.refl _)
   intro aC
   refine dX [_] h1 (.ae 0 aC 0 1 _ rfl (Nat.le_of_ble_eq_true rfl)) rfl (by omega) (by decide) (by decide) (fun ym we Cd =>?_)
   refine dX ((aC,[AV.af (.int .i64) (dr n l k)])::we) h2 (.af (.int .i64) (dr n l k) rfl) (by rw[← fi,nO];exact (Nat.mul_one _).symm) (show told.length+(dr n l k).length≤1048576 by omega) (by decide) (by decide) (fun ou oQ oL =>?_)
   refine aH (k+1,true,ps++[dr n l k],ym,we,told++dr n l k,ou,oQ) (by show n-(k+1)<n-k;omega) ⟨eM,⟨⟨hI.snoc (by omega) sr nu (fun z hz=>Te hz),?_,?_⟩,hX.step (by omega) eM hC (by unfold iU;rw[decide_eq_true c2,show fG told k=false from c3,show mZ l (dr n l k) told=true from c4];rfl),fun h=>by cases h⟩,(fun h=>by cases h),fun _ =>?_⟩ ⟨rfl,rfl,rfl,rfl,rfl,aI (by omega),trivial⟩ (.drop 0 1 (aF rfl))
   ·show Acc 1 (ps++[dr n l k]).length ym we (bE (ps++[dr n l k]))
    rw[show bE (ps++[dr n l k])=bE ps++[.af (.int .i64) (dr n l k)] from List.map_append,List.length_append];exact Cd
   ·show Acc 1 (told++dr n l k).length ou oQ (ak (told++dr n l k))
    rw[ak,List.map_append,List.length_append]
    rw[← fi]at oL
    exact oL
   ·show jx.length<(told++dr n l k).length
    rw[List.length_append];omega
end Go.Proofs.YtnpidbjdilnhlaaGreat
namespace Go.Proofs.YtnpidbjdilnhlaaGreat
open Go.RowKit
set_option maxRecDepth 100000
set_option maxHeartbeats 4000000
def lT(n:Nat)(rk p:List Int):List Int:=(List.range n).flatMap fun k:Nat=>p.filter fun a=>decide (rk.getD a.toNat 0=(k:Int))
def rZ(n:Nat)(l:List aK)(fr:List Int):List Int:=(eI n l).flatMap (lT n (iY n (gH n l fr)))
theorem Sp(n:Nat)(l:List aK)(fr:List Int)(σ:Hp)(hl:l.length≤100000)(hn:n≤256)(hf:fr.length≤100000)(jL:∀z∈fr,0≤z∧z<n):ACalls Tryz.prog 115 [.int .i64 n,.af bA l,.af (.int .i64) fr] σ (fun r σ'=>r=.af (.int .i64) (rZ n l fr)∧σ'=σ∧(rZ n l fr).length≤131072∧∀z∈rZ n l fr,0≤z∧z<(n:Int)):=by
 refine okF Tryz.func115 (by kernel_rfl) ?_
 refine .mk [] _ (Sm n l fr _ hl hn hf jL) ?_
 rintro _ τ ⟨rfl,sm⟩
 subst τ
 refine .mk [] _ (L3 n l _ hl hn) ?_
 rintro _ τ ⟨rfl,sm,told,hI⟩
 subst τ
 unfold rZ
 have hrk:(iY n (gH n l fr)).length=n:=oU _ _ _
 generalize iY n (gH n l fr)=rk at hrk
 generalize eI n l=ps at hI
 have jd:=hI.EW
 refine .wrap 8 _ rfl rfl ?_
 refine aU (S:=Cm) (fun s=>[(0,.int .i64 n),(7,.af (.int .i64) rk),(8,.via s.2.2.1),(20,.af (.slice (.int .i64)) ps),(21,.int .i64 ps.length),(22,.int .i64 s.1)]) (fun s=>s.2.2.2++σ) (fun s=>s.1≤ps.length∧Fo n (n*(ps.take s.1).flatten.length) s∧s.2.1=(ps.take s.1).flatMap (lT n rk)) (fun s=>ps.length-s.1) (0,[],.aj,[]) ⟨⟨Nat.zero_le _,⟨⟨Nat.zero_le _,fun _ h=>(List.not_mem_nil h).elim⟩,.nil⟩,rfl⟩,⟨rfl,rfl,rfl,rfl,rfl,rfl,trivial⟩,rfl⟩ ?_
 rintro⟨i,o,v,acc⟩ g ⟨cY,⟨⟨sI,ja⟩,h0⟩,jN⟩
 have hX:o=(ps.take i).flatMap (lT n rk):=jN
 have hi:i≤ps.length:=cY
 have hB:o.length≤n*(ps.take i).flatten.length:=sI
 have hz:∀z∈o,0≤z∧z<n:=ja
 have h:Acc 1 o.length v acc (ak o):=h0
 clear cY sI ja h0
 refine an (p:=(i:Int)<(ps.length:Int)) (fun ab =>?_) (fun aq =>?_)
 rotate_left
 ·refine jR (s:=.int .i64) [] h rfl (fi _) (by decide) (.done ?_)
  obtain rfl:i=ps.length:=by omega
  rw[List.take_length]at hX
  refine⟨congrArg (AV.af (.int .i64)) hX,rfl,by rw[← hX];refine Nat.le_trans hB ?_;rw[List.take_length,← hI.told];exact Nat.le_trans (Nat.mul_le_mul hn hI.qy) (by omega),by rw[← hX];exact hz⟩
 have ab:i<ps.length:=by omega
 have hah:=hI.ahead i ab
 have htf:=Oi ab
 have nu:=hI.node ps[i] (List.getElem_mem ab)
 have Bv:=(hI.ne ps[i] (List.getElem_mem ab)).2
 obtain⟨p,hp⟩:∃p,ps[i]=p:=⟨_,rfl⟩
 rw[hp]at htf nu Bv
 refine ah.mk rfl (aT.mk p (by omega) ((get_some ab).trans (congrArg some hp)) ?_)
 have hA:n*(ps.take i).flatten.length≤65536:=Nat.le_trans (Nat.mul_le_mul hn (Nat.le_of_lt hah)) (by omega)
 have y5:n*(ps.take (i+1)).flatten.length=n*(ps.take i).flatten.length+n*p.length:=by rw[htf,Nat.mul_add]
 have hnp:n*p.length≤65536:=Nat.le_trans (Nat.mul_le_mul hn Bv) (by omega)
 generalize n*(ps.take i).flatten.length=A at hB hA y5
 have dh:(ps.take (i+1)).flatMap (lT n rk)=(ps.take i).flatMap (lT n rk)++lT n rk p:=by rw[List.take_succ_eq_append_getElem ab,List.flatMap_append,hp];simp
 generalize (ps.take i).flatMap (lT n rk)=O at hX dh
 refine aU (S:=Cm) (fun s=>[(0,.int .i64 n),(7,.af (.int .i64) rk),(8,.via s.2.2.1),(10,.af (.int .i64) p),(11,.int .i64 s.1),(20,.af (.slice (.int .i64)) ps),(21,.int .i64 ps.length),(22,.int .i64 i)]) (fun s=>s.2.2.2++σ) (fun s=>s.1≤n∧Fo n (A+s.1*p.length) s∧s.2.1=O++(List.range s.1).flatMap fun k:Nat=>p.filter fun a=>decide (rk.getD a.toNat 0=(k:Int))) (fun s=>n-s.1) (0,o,v,acc) ⟨⟨Nat.zero_le _,⟨⟨by show o.length≤A+0*p.length;omega,hz⟩,h⟩,by show o=O++[];rw[List.append_nil];exact hX⟩,⟨rfl,rfl,rfl,rfl,rfl,rfl,rfl,rfl,trivial⟩,rfl⟩ ?_
 clear h hz hB hX
 rintro⟨k,o,v,acc⟩ g2 ⟨aG,⟨⟨sI,ja⟩,h0⟩,jN⟩
 have hX:o=O++(List.range k).flatMap fun k:Nat=>p.filter fun a=>decide (rk.getD a.toNat 0=(k:Int)):=jN
 have hk:k≤n:=aG
 have hB:o.length≤A+k*p.length:=sI
 have hz:∀z∈o,0≤z∧z<n:=ja
 have h:Acc 1 o.length v acc (ak o):=h0
 clear aG sI ja h0
 refine an (p:=(k:Int)<(n:Int)) (fun bY =>?_) (fun gh =>?_)
 rotate_left
 ·obtain rfl:k=n:=by omega
  exact aH (i+1,o,v,acc) (by show ps.length-(i+1)<ps.length-i;omega) ⟨ab,⟨⟨by show o.length≤k*(ps.take (i+1)).flatten.length;omega,hz⟩,h⟩,by show o=(ps.take (i+1)).flatMap (lT k rk);rw[dh];exact hX⟩ ⟨rfl,rfl,rfl,rfl,rfl,aI (by omega),trivial⟩ (.refl _)
 have bY:k<n:=by omega
 have hkp:(k+1)*p.length=k*p.length+p.length:=Nat.succ_mul _ _
 have Xt:(k+1)*p.length≤n*p.length:=Nat.mul_le_mul_right _ bY
 generalize (k+1)*p.length=Y2 at hkp Xt
 have Mj:O++(List.range (k+1)).flatMap (fun k:Nat=>p.filter fun a=>decide (rk.getD a.toNat 0=(k:Int)))=(O++(List.range k).flatMap fun k:Nat=>p.filter fun a=>decide (rk.getD a.toNat 0=(k:Int)))++p.filter fun a=>decide (rk.getD a.toNat 0=(k:Int)):=by rw[List.range_succ,List.flatMap_append,List.append_assoc];simp
 generalize (O++(List.range k).flatMap fun k:Nat=>p.filter fun a=>decide (rk.getD a.toNat 0=(k:Int)))=O2 at hX Mj
 refine aU (S:=Cm) (fun s=>[(0,.int .i64 n),(7,.af (.int .i64) rk),(8,.via s.2.2.1),(10,.af (.int .i64) p),(11,.int .i64 k),(20,.af (.slice (.int .i64)) ps),(21,.int .i64 ps.length),(22,.int .i64 i),(31,.af (.int .i64) p),(32,.int .i64 p.length),(33,.int .i64 s.1)]) (fun s=>s.2.2.2++σ) (fun s=>s.1≤p.length∧Fo n (A+k*p.length+s.1) s∧s.2.1=O2++(p.take s.1).filter fun a=>decide (rk.getD a.toNat 0=(k:Int))) (fun s=>p.length-s.1) (0,o,v,acc) ⟨⟨Nat.zero_le _,⟨⟨hB,hz⟩,h⟩,by show o=O2++[];rw[List.append_nil];exact hX⟩,⟨rfl,rfl,rfl,rfl,rfl,rfl,rfl,rfl,rfl,rfl,rfl,trivial⟩,rfl⟩ ?_
 clear h hz hB hX
 rintro⟨j,o,v,acc⟩ g3 ⟨fW,⟨⟨sI,ja⟩,h0⟩,jN⟩
 have hX:o=O2++(p.take j).filter fun a=>decide (rk.getD a.toNat 0=(k:Int)):=jN
 have hj:j≤p.length:=fW
 have hB:o.length≤A+k*p.length+j:=sI
 have hz:∀z∈o,0≤z∧z<n:=ja
 have h:Acc 1 o.length v acc (ak o):=h0
 clear fW sI ja h0
 refine an (p:=(j:Int)<(p.length:Int)) (fun tF =>?_) (fun hge3 =>?_)
 rotate_left
 ·obtain rfl:j=p.length:=by omega
  exact aH (k+1,o,v,acc) (by show n-(k+1)<n-k;omega) ⟨bY,⟨⟨by show o.length≤A+(k+1)*p.length;rw[Nat.succ_mul];omega,hz⟩,h⟩,by show o=O++(List.range (k+1)).flatMap fun k:Nat=>p.filter fun a=>decide (rk.getD a.toNat 0=(k:Int));rw[Mj];rw[List.take_length]at hX;exact hX⟩ ⟨rfl,rfl,rfl,rfl,aI (by omega),rfl,rfl,rfl,trivial⟩ (.refl _)
 have tF:j<p.length:=by omega
 obtain⟨z,B1⟩:∃z,p[j]=z:=⟨_,rfl⟩
 have dH:=nu z (B1▸List.getElem_mem tF)
 refine ah.mk rfl (aT.mk z (by omega) ((get_some tF).trans (congrArg some B1)) ?_)
 refine ah.mk rfl (aT.mk (rk.getD z.toNat 0) (by omega) (La (by omega)) ?_)
 refine an (p:=rk.getD z.toNat 0=(k:Int)) (fun c =>?_) (fun c =>?_)
 ·intro aC
  refine dX [_] h (.ae 0 aC 0 1 _ rfl (Nat.le_of_ble_eq_true rfl)) rfl (by omega) (by decide) (by decide) (fun v' aP h' =>?_)
  have gj:(o++[z]:List Int).length=o.length+1:=List.length_append
  have hoc:ak (o++[z])=ak o++[.int .i64 z]:=List.map_append
  refine aH (j+1,o++[z],v',aP) (by show p.length-(j+1)<p.length-j;omega) ⟨tF,⟨⟨Nat.le_trans (Nat.le_of_eq gj) (by omega),fun y hy =>?_⟩,?_⟩,?_⟩ ⟨rfl,rfl,rfl,rfl,rfl,rfl,rfl,rfl,rfl,rfl,aI (by omega),trivial⟩ (.drop 0 1 (aF rfl))
  ·rcases List.mem_append.1 hy with hy | hy
   ·exact hz y hy
   ·rw[List.mem_singleton.1 hy];exact dH
  ·show Acc 1 (o++[z]:List Int).length v' aP (ak (o++[z]))
   rw[gj,hoc]
   exact h'
  ·show o++[z]=O2++(p.take (j+1)).filter fun a=>decide (rk.getD a.toNat 0=(k:Int))
   rw[List.take_succ_eq_append_getElem tF,List.filter_append,B1,hX,List.append_assoc,List.filter_cons,if_pos (by simpa using c),List.filter_nil]
 ·exact aH (j+1,o,v,acc) (by show p.length-(j+1)<p.length-j;omega) ⟨tF,⟨⟨by show o.length≤A+k*p.length+(j+1);omega,hz⟩,h⟩,by show o=O2++(p.take (j+1)).filter fun a=>decide (rk.getD a.toNat 0=(k:Int));rw[List.take_succ_eq_append_getElem tF,List.filter_append,B1,List.filter_cons,if_neg (by simpa using c),List.filter_nil,List.append_nil];exact hX⟩ ⟨rfl,rfl,rfl,rfl,rfl,rfl,rfl,rfl,rfl,rfl,aI (by omega),trivial⟩ (.refl _)
end Go.Proofs.YtnpidbjdilnhlaaGreat
