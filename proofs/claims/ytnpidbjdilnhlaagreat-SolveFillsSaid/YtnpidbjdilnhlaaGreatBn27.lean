import Derived.Test.YtnpidbjdilnhlaaGreatBn22
import Derived.Test.YtnpidbjdilnhlaaGreatBn26
import Derived.Test.YtnpidbjdilnhlaaGreatBn25
import Derived.Test.YtnpidbjdilnhlaaGreatBn12
namespace Go.Proofs.YtnpidbjdilnhlaaGreat
open Go.RowKit
set_option maxRecDepth 100000
theorem Jo:∀(n:Nat) (l:List Int),l.Nodup→(∀z∈l,0≤z∧z<n)→l.length≤n
 | 0,l,_,h=>by
  cases l with
  | nil=>exact Nat.le_refl _
  | cons z l=>have:=h z (List.mem_cons_self ..);omega
 | n+1,l,hn,h=>by
  have h1:=Jo n (l.erase (n:Int)) (hn.erase _) (fun z hz=>by
   rw[hn.mem_erase_iff]at hz
   have:=h z hz.2
   have:=hz.1
   omega)
  rw[List.length_erase]at h1
  split at h1 <;> omega
def gn(n:Nat)(l:List Int):Prop:=l.Nodup∧∀z∈l,0≤z∧z<n
theorem gn.len{n:Nat}{l:List Int}(h:gn n l):l.length≤n:=Jo n l h.1 h.2
theorem gn.nil(n:Nat):gn n []:=⟨List.nodup_nil,fun _ h=>(List.not_mem_nil h).elim⟩
theorem gn.snoc{n:Nat}{l:List Int}{a:Int}(h:gn n l)(ha:¬a∈l)(h2:0≤a∧a<n):gn n (l++[a]):=by
 refine⟨?_,fun z hz =>?_⟩
 ·rw[List.nodup_append]
  refine⟨h.1,by simp,fun x hx y hy =>?_⟩
  rw[List.mem_singleton.1 hy]
  exact fun he=>ha (he▸hx)
 ·rcases List.mem_append.1 hz with hz | hz
  ·exact h.2 z hz
  ·rw[List.mem_singleton.1 hz];exact h2
theorem gn.perm{n:Nat}{l l2:List Int}(h:gn n l)(hp:l.Perm l2):gn n l2:=⟨hp.nodup_iff.1 h.1,fun z hz=>h.2 z (hp.mem_iff.2 hz)⟩
theorem gn.right{n:Nat}{l l2:List Int}(h:gn n (l++l2)):gn n l2:=⟨(List.nodup_append.1 h.1).2.1,fun z hz=>h.2 z (List.mem_append.2 (.inr hz))⟩
theorem TZ{k:Nat}{v:AV}{acc:Hp}{cs:List AV}(fr σ:Hp)(h:Acc 1 k v acc cs):gd (fr++(acc++σ)) 1 v k cs:=by
 have hl:=h.length
 cases h with
 | nil=>exact .aj
 | ae b k cs h =>
  have:=gd.ae (σ:=fr++([(b,cs)]++σ)) (es:=1) fr.length b 0 k cs (TM fr σ _) (by omega)
  rw[List.drop_zero,List.take_of_length_le (by omega)]at this
  exact this
abbrev Fu(met:List Int)(a:Int):List AV:=(([]:List AV)++ak met).take ((0+met.length)*1)++[.int .i64 a]
theorem UL(met:List Int)(a:Int):Fu met a=ak (met++[a]):=by
 show (ak met).take ((0+met.length)*1)++[.int .i64 a]=_
 rw[List.take_of_length_le (by rw[nO];omega)]
 unfold ak
 rw[List.map_append];rfl
theorem VZ(met:List Int):(0+met.length)*1≤(([]:List AV)++ak met).length:=by
 show (0+met.length)*1≤(ak met).length
 rw[nO];omega
theorem UK(met:List Int)(a:Int)(b:Nat):Acc 1 (met++[a]).length (.ae b 0 (0+met.length+1) 1) [(b,Fu met a)] (ak (met++[a])):=by
 rw[UL,show 0+met.length+1=(met++[a]).length by simp]
 exact .ae b _ _ (by rw[nO,Nat.mul_one])
abbrev ViS:=Nat×List Int×AV×Hp×AV×Hp
def X4(n:Nat)(nx met:List Int)(a:Int)(s:ViS):Prop:=s.1≤nx.length∧gn n (met++[a]++s.2.1)∧Acc 1 (met++[a]++s.2.1).length s.2.2.1 s.2.2.2.1 (ak (met++[a]++s.2.1))∧Acc 1 s.2.1.length s.2.2.2.2.1 s.2.2.2.2.2 (ak s.2.1)
theorem La{l:List Int}{k:Nat}(h:k<l.length):l[k]?=some (l.getD k 0):=by
 rw[List.getD_eq_getElem?_getD,List.getElem?_eq_getElem h];rfl
abbrev Cm:=Nat×List Int×AV×Hp
def Fo(n B:Nat)(s:Cm):Prop:=(s.2.1.length≤B∧∀z∈s.2.1,0≤z∧z<n)∧Acc 1 s.2.1.length s.2.2.1 s.2.2.2 (ak s.2.1)
end Go.Proofs.YtnpidbjdilnhlaaGreat
namespace Go.Proofs.YtnpidbjdilnhlaaGreat
open Go.RowKit
set_option maxRecDepth 100000
theorem Kx{F:Nat→Prop}{w:World}{σ:Hp}(h:aV F w σ){i b' k:Nat}{cs':List AV}{c c':AV}(hl:c'.leaf=true)(dI:c.leaf=true)(hc:∀v,aA F w c v→aA F w c' v)(hi:σ[i]?=some (b',cs'))(hk:cs'[k]?=some c):aV F w (σ.set i (b',cs'.set k c')):=by
 refine⟨?_,fun p hp =>?_,h.low⟩
 ·have e1:(σ.set i (b',cs'.set k c')).map Prod.fst=σ.map Prod.fst:=by
   rw[List.map_set]
   refine List.ext_getElem (by simp) fun j h1 h2 =>?_
   rw[List.getElem_set]
   split
   ·rename_i hj;subst hj
    obtain⟨q1,q2⟩:=List.getElem?_eq_some_iff.1 hi
    rw[List.getElem_map,q2]
   ·rfl
  rw[e1];exact h.nodup
 ·rcases List.mem_or_eq_of_mem_set hp with hp | rfl
  ·exact h.holds p hp
  ·obtain⟨h1,c0,T,h2,h3,h4⟩:=(h.holds _ (List.mem_of_getElem? hi)).EA hk dI
   refine⟨h1,.inl ⟨c0,T,h2,by rw[List.length_set];exact h3,fun j x hx =>?_⟩⟩
   rw[List.getElem?_set]at hx
   split at hx
   ·rename_i hj;subst hj
    split at hx
    ·cases hx
     exact⟨hl,hc _ (h4 k _ hk).2⟩
    ·cases hx
   ·exact h4 j x hx
abbrev fU:=AV×Hp×List Int
def nV(r:fU):Prop:=(r.1=.aj∧r.2.1=[]∧r.2.2=[])∨(∃v,r.1=.via v∧Acc 1 r.2.2.length v r.2.1 (ak r.2.2))
def fK(rs:List fU):List AV:=rs.map (·.1)
def fL(rs:List fU):Hp:=rs.flatMap (·.2.1)
def fJ(rs:List fU):List (List Int):=rs.map (·.2.2)
theorem DF:∀(A:List (List Int)) (l:List Int) (B:List AV),(bE A++.af (.int .i64) l::B)=bE (A++[l])++B
 | [],_,_=>rfl
 | a::A,l,B=>congrArg (AV.af (.int .i64) a :: ·) (DF A l B)
theorem Tc(A:List (List Int)):(bE A).length=A.length:=List.length_map _
theorem DE{w:World}{bo:Nat}{σ:Hp}:∀(B:List fU) (A:List (List Int)) (F:Nat→Prop),(∀r∈B,nV r)→aV F w ((bo,bE A++fK B)::(fL B++σ))→∃F',a6 F w F' w∧aV F' w ((bo,bE (A++fJ B))::σ)
 | [],A,F,_,h=>⟨F,⟨rfl,rfl,rfl,Nat.le_refl _,fun _ h=>h,fun _ _=>rfl,fun _ c _ fz h=>⟨c,fz,h,rfl⟩,Nat.le_refl _⟩,by
  have h:aV F w ((bo,bE A++[])::σ):=h
  rw[List.append_nil]at h
  rw[show A++fJ []=A from List.append_nil _]
  exact h⟩
 | (c,acc,l)::B,A,F,hB,h=>by
  have hB':∀r∈B,nV r:=fun r hr=>hB r (List.mem_cons_of_mem _ hr)
  have h:aV F w ((bo,bE A++c::fK B)::(acc++fL B++σ)):=h
  have hk:(bE A++c::fK B)[(bE A).length]?=some c:=by simp
  have np:acc=[]→l=[]→c.leaf=true→(∀v,aA F w c v→aA F w (.af (.int .i64) []) v)→∃F',a6 F w F' w∧aV F' w ((bo,bE (A++fJ ((c,acc,l)::B)))::σ):=fun h1 h2 dI h3=>by
   subst h1;subst h2
   have this:aV F w ((bo,(bE A++c::fK B).set (bE A).length (.af (.int .i64) []))::(fL B++σ)):=Kx h (c':=.af (.int .i64) []) rfl dI h3 (i:=0) rfl hk
   rw[DD]at this
   have this:aV F w ((bo,bE A++.af (.int .i64) []::fK B)::(fL B++σ)):=this
   have this:aV F w ((bo,bE (A++[[]])++fK B)::(fL B++σ)):=(DF A [] (fK B))▸this
   obtain⟨F',q1,q2⟩:=DE B (A++[[]]) F hB' this
   rw[List.append_assoc]at q2
   exact⟨F',q1,q2⟩
  have dS:∀v,aA F w .aj v→aA F w (.af (.int .i64) []) v:=fun v hv=>by
   cases hv
   exact .af (.int .i64) [] _ ⟨none,0,rfl,Nat.le_refl _,by unfold maxLen;omega,fun _=>rfl,fun aS=>absurd rfl aS⟩
  rcases hB _ (List.mem_cons_self ..) with ⟨h1,h2,h3⟩ | ⟨v,h1,h2⟩
  ·have h1:c=.aj:=h1
   exact np h2 h3 (by rw[h1];rfl) (by rw[h1];exact dS)
  ·have h1:c=.via v:=h1
   subst h1
   have h2:Acc 1 l.length v acc (ak l):=h2
   generalize hn:l.length=n at h2
   generalize hc:ak l=cs at h2
   cases h2 with
   | nil =>
    exact np rfl (List.length_eq_zero_iff.1 hn) rfl (by
     intro v hv
     cases hv with
     | via _ _ _ hv=>exact dS _ hv)
   | ae b k cs hl =>
    subst hn
    subst hc
    have h5:aV F w ((bo,(bE A++.via (.ae b 0 l.length 1)::fK B).set (bE A).length (.ae b 0 l.length 1))::(b,ak l)::(fL B++σ)):=Kx h (c':=.ae b 0 l.length 1) rfl rfl (by
     intro v hv
     cases hv with
     | via _ _ _ hv=>exact hv) (i:=0) rfl hk
    rw[DD]at h5
    have h5:aV F w ((bo,bE A++.ae b 0 l.length 1::fK B)::(b,ak l)::(fL B++σ)):=h5
    obtain⟨ar,aD,hh⟩:=ql h5 (j:=1) (b:=b) (off:=0) (len:=l.length) (es:=1) (cs:=ak l) (e:=.int .i64) (l:=l) rfl (by rw[List.drop_zero,← fi];exact List.take_of_length_le (by rw[nO];omega)) ⟨rfl,rfl,by decide⟩
    have h6:aV _ w ((bo,(bE A++.ae b 0 l.length 1::fK B).set (bE A).length (.af (.int .i64) l))::(fL B++σ)):=wW aD hh (i:=0) (k:=(bE A).length) (b':=bo) rfl (by simp)
    rw[DD]at h6
    have h6:aV _ w ((bo,bE A++.af (.int .i64) l::fK B)::(fL B++σ)):=h6
    rw[DF]at h6
    obtain⟨F',q1,q2⟩:=DE B (A++[l]) _ hB' h6
    rw[List.append_assoc]at q2
    exact⟨F',ar.trans q1,q2⟩
theorem Hd{f:FuncId}{xs:List AV}{σ0 σ:Hp}{Q:List (List Int)→Prop}(h:ACalls Tryz.prog f xs σ0 (fun r σ'=>∃bo rs,r=.ae bo 0 (rs:List fU).length 1∧σ'=(bo,fK rs)::(fL rs++σ)∧(∀r∈rs,nV r)∧Q (fJ rs))):ACalls Tryz.prog f xs σ0 (fun r σ'=>∃ls:List (List Int),r=.af (.slice (.int .i64)) ls∧σ'=σ∧Q ls):=
 ⟨h.1,fun F w vs bD aD=>(h.2 F w vs bD aD).mono fun _ w' ⟨r,v,σ',F',h1,h2,h3,h4,h5⟩=>by
  obtain⟨bo,rs,rfl,rfl,q1,q2⟩:=h5
  obtain⟨F2,k1,k2⟩:=DE rs [] F' q1 h3
  have hl:(fJ rs).length=rs.length:=List.length_map _
  have k2:aV F2 w' ((bo,bE (fJ rs))::σ):=k2
  obtain⟨m1,m2,m3⟩:=ql k2 (j:=0) (b:=bo) (off:=0) (len:=rs.length) (es:=1) (cs:=bE (fJ rs)) (e:=.slice (.int .i64)) (l:=fJ rs) rfl (by rw[List.drop_zero,← p9];exact List.take_of_length_le (by rw[Tc,hl];omega)) ⟨hl,rfl,by decide⟩
  exact⟨.af (.slice (.int .i64)) (fJ rs),v,σ,_,h1,(h2.trans k1).trans m1,m2,m3 v (h4.mono k1),fJ rs,rfl,rfl,q2⟩⟩
theorem H2(rs:List fU):(fK rs).length=rs.length:=List.length_map _
theorem I4(A:List fU)(r:fU)(B:List fU){z:Int}(hz:z=A.length):(fK (A++r::B))[0+z.toNat*1]?=some r.1:=by
 subst hz
 rw[Int.toNat_natCast,Nat.mul_one,Nat.zero_add]
 unfold fK
 rw[List.getElem?_map]
 simp
theorem H0(A:List fU)(r r2:fU)(B:List fU){z:Int}(hz:z=A.length):(fK (A++r::B)).set (0+z.toNat*1) r2.1=fK (A++r2::B):=by
 subst hz
 rw[Int.toNat_natCast,Nat.mul_one,Nat.zero_add]
 unfold fK
 simp
theorem I8(n:Nat):bN [.aj] n=fK (List.replicate n (.aj,[],[])):=by
 induction n with
 | zero=>rfl
 | succ n ih=>show AV.aj::bN [.aj] n=_;rw[ih];rfl
theorem H4(n:Nat):fL (List.replicate n (.aj,[],[]))=[]:=by
 induction n with
 | zero=>rfl
 | succ n ih=>exact ih
theorem rF(A:List fU)(r:fU)(B:List fU)(σ:Hp):fL (A++r::B)++σ=fL A++(r.2.1++(fL B++σ)):=by
 unfold fL
 simp
end Go.Proofs.YtnpidbjdilnhlaaGreat
namespace Go.Proofs.YtnpidbjdilnhlaaGreat
open Go.RowKit
set_option maxRecDepth 100000
def cb(s:Sy)(k:Int):Int:=if dm s=0 then (if 1≤k∧k≤64 then 0 else 1) else dm s
theorem WU{s:Sy}{k:Int}(h:¬dm s=0):dm s=cb s k:=(if_neg h).symm
theorem WT{s:Sy}{k:Int}(h:dm s=0)(hk:¬(1≤k∧k≤64)):1=cb s k:=by unfold cb;rw[if_pos h,if_neg hk]
theorem WR{s:Sy}{k:Int}(h:dm s=0)(hk:1≤k∧k≤64):0=cb s k:=by unfold cb;rw[if_pos h,if_pos hk]
def mA(e n:Int):Int:=if e=0 then n else 0
def lO(s:Sy)(k:Int):List AV:=[.int .i64 (mA (cb s k) s.ag),.int .i64 (mA (cb s k) (cT s.ag s.w)),.int .i64 (mA (cb s k) s.n),.int .i64 (mA (cb s k) k)]
theorem Jl{s:Sy}{k:Int}(h:¬dm s=0):AV.tup [.agg [.int .i64 0,.int .i64 0,.int .i64 0,.int .i64 0],.int .i64 (dm s)]=.tup [.agg (lO s k),.int .i64 (cb s k)]:=by unfold lO mA;rw[← WU h];simp only[if_neg h]
theorem Ab{s:Sy}{k:Int}(h:dm s=0)(hk:¬(1≤k∧k≤64)):AV.tup [.agg [.int .i64 0,.int .i64 0,.int .i64 0,.int .i64 0],.int .i64 1]=.tup [.agg (lO s k),.int .i64 (cb s k)]:=by unfold lO mA;rw[← WT h hk];rfl
theorem Ke{s:Sy}{k:Int}(h:dm s=0)(hk:1≤k∧k≤64):AV.tup [.agg [.int .i64 s.ag,.int .i64 (cT s.ag s.w),.int .i64 s.n,.int .i64 k],.int .i64 0]=.tup [.agg (lO s k),.int .i64 (cb s k)]:=by unfold lO mA;rw[← WR h hk];rfl
theorem VB(s:Sy)(k:Int)(σ:Hp)(hf:Fit s):ACalls Tryz.prog 11 [.agg (bg s),.int .i64 k] σ (aB (.tup [.agg (lO s k),.int .i64 (cb s k)]) σ):=by
 refine okF Tryz.func11 (by kernel_rfl) ?_
 intro aC
 intro bM
 refine aa.mk 1 _ _ rfl rfl ?_
 refine az [] (QL s _ hf) ?_
 refine bS (fun c3 =>?_) (fun c3 =>?_)
 ·have c3:¬(dm s=0):=by simpa using c3
  refine ai.mk 0 _ _ rfl rfl ?_
  refine aa.mk 0 _ _ rfl rfl ?_
  exact .drop 0 2 (.done ⟨Jl (by assumption),rfl⟩)
 ·have c3:dm s=0:=by simpa using c3
  refine an (fun c4 =>?_) (fun c4 =>?_)
  ·have c4:k<1:=c4
   refine ai.mk 0 _ _ rfl rfl ?_
   refine aa.mk 0 _ _ rfl rfl ?_
   exact .drop 0 2 (.done ⟨Ab (by assumption) (by omega),rfl⟩)
  ·have c4:¬(k<1):=c4
   refine an (fun c5 =>?_) (fun c5 =>?_)
   ·have c5:64<k:=c5
    refine ai.mk 0 _ _ rfl rfl ?_
    refine aa.mk 0 _ _ rfl rfl ?_
    exact .drop 0 2 (.done ⟨Ab (by assumption) (by omega),rfl⟩)
   ·have c5:¬(64<k):=c5
    refine .sched [6] (upto [6] 13 0) (by kernel_rfl) ?_
    refine aa.mk 1 _ _ rfl rfl ?_
    refine aa.mk 1 _ _ rfl rfl ?_
    refine aa.mk 1 _ _ rfl rfl ?_
    refine aJ [] (Dd _ _ _) ?_
    refine aa.mk 1 _ _ rfl rfl ?_
    refine ai.mk 0 _ _ rfl rfl ?_
    refine aa.mk 0 _ _ rfl rfl ?_
    exact .drop 0 2 (.done ⟨Ke (by assumption) (by omega),rfl⟩)
end Go.Proofs.YtnpidbjdilnhlaaGreat
namespace Go.Proofs.YtnpidbjdilnhlaaGreat
open Go.RowKit
set_option maxRecDepth 100000
set_option maxHeartbeats 4000000
def rm(n:Int):Nat:=(min (max n 1) 4096).toNat
theorem Ep(n:Int):1≤rm n∧rm n≤4096:=by unfold rm;omega
theorem KT(n:Int):(if (4096:Int)<(if n<1 then 1 else n) then (4096:Int) else (if n<1 then 1 else n))=((rm n:Nat):Int):=by
 unfold rm
 by_cases h:n<1
 ·simp only[if_pos h];omega
 ·simp only[if_neg h];split <;> omega
theorem EN(n:Int)(σ:Hp):ACalls Tryz.prog 155 [.int .i64 n] σ (aB (.int .i64 (rm n)) σ):=by
 refine okF Tryz.func155 (by kernel_rfl) ?_
 exact .done ⟨aN (KT n),rfl⟩
def e9(base:Int):Int:=wr (base+1)
def jS(base cap i:Int):Int:=wr (wr (base+2)+wr (i % (rm cap:Int)))
theorem qi(b c:Int)(σ:Hp):ACalls Tryz.prog 111 [.agg [.int .i64 b,.int .i64 c]] σ (aB (.int .i64 (e9 b)) σ):=by
 refine okF Tryz.func111 (by kernel_rfl) ?_
 intro aC
 refine aa.mk 0 _ _ rfl rfl ?_
 exact .drop 0 1 (.done ⟨rfl,rfl⟩)
theorem Ee(b c i:Int)(σ:Hp)(h0:0≤i):ACalls Tryz.prog 369 [.agg [.int .i64 b,.int .i64 c],.int .u64 i] σ (aB (.int .i64 (jS b c i)) σ):=by
 have hr:=Ep c
 have e1:IntKind.u64.wrap (rm c:Int)=rm c:=by rw[IntKind.wrap_u64];omega
 have e2:i.tmod (IntKind.u64.wrap (rm c:Int))=i % (rm c:Int):=by rw[e1,Int.tmod_eq_emod_of_nonneg h0]
 refine okF Tryz.func369 (by kernel_rfl) ?_
 intro aC
 refine .quiet (by kernel_rfl) ?_
 refine aa.mk 0 _ _ rfl rfl ?_
 refine aa.mk 0 _ _ rfl rfl ?_
 refine aJ [] (EN _ _) ?_
 refine ah.mk (by rw[e1];omega) ?_
 exact .drop 0 1 (.done ⟨aN (by rw[e2];rfl),rfl⟩)
structure DQ where
 base:Int
 cap:Int
 n:Int
 ok:Bool
 ended:Bool
 at_:Nat
 b:Int
 t:Int
 x:Int
def jh(q:DQ):List AV:=[.int .i64 q.base,.int .i64 q.cap,.int .u64 q.n,.bool q.ok,.bool q.ended,.int .i64 q.at_,.int .u64 q.b,.int .u64 q.t,.int .u64 q.x]
abbrev wu(n:Int):Int:=IntKind.u64.wrap n
def jQ(O:gM)(q:DQ)(a:O.A):DQ×O.A×Bool:=
 if q.ended then (q,a,true)
 else if q.at_=0 then ({ q with at_:=q.at_+1,b:=(O.ld a (e9 q.base)).1 },(O.ld a (e9 q.base)).2,false)
 else if q.at_=1 then
  (if (rm q.cap:Int)≤wr (wu (q.b-(O.ld a q.base).1)) then ({ q with at_:=q.at_+1,t:=(O.ld a q.base).1,ended:=true },(O.ld a q.base).2,true)
  else ({ q with at_:=q.at_+1,t:=(O.ld a q.base).1 },(O.ld a q.base).2,false))
 else if q.at_=2 then ({ q with at_:=q.at_+1 },O.st a (jS q.base q.cap q.b) q.n,false)
 else ({ q with at_:=q.at_+1,ok:=true,ended:=true },O.st a (e9 q.base) (wu (q.b+1)),true)
theorem iy{M:AMem}{σ:Hp}{X:Type}{B:X→List AV}{r:Nat}{res:X×M.O.A×Bool}{x:X}{a:M.O.A}{b:Bool}{m':M.S}{cs:List AV}(h:res=(x,a,b))(hm:M.abs m'=a)(hc:cs=B x):mg M σ B r res (.bool b) ((r,cs)::(M.B m'++σ)):=by
 subst hc
 exact gJ h hm
theorem L4(M:AMem)(r:Nat)(q:DQ)(m:M.S)(d:Int)(σ:Hp)(hf:M.O.free (M.abs m))(dO:q.at_≤1000)(hb:0≤q.b):ACalls Tryz.prog 376 [.ptr r 0,M.v,.int .i64 d] ((r,jh q)::(M.B m++σ)) (mg M σ jh r (jQ M.O q (M.abs m))):=by
 have hw:IntKind.i64.wrap ((q.at_:Int)+1)=((q.at_+1:Nat):Int):=by rw[IntKind.wrap_i64];omega
 refine okF Tryz.func376 (by kernel_rfl) ?_
 refine aa.gy 0 _ _ rfl rfl (fun h0 =>?_) (fun h0 =>?_)
 ·exact .done (gJ (x:=q) (by simp[jQ,h0]) rfl)
 refine az [] (cu _ _ _) ?_
 refine aa.mk 0 _ _ rfl rfl ?_
 refine ai.mk 0 _ _ rfl rfl ?_
 refine aa.mk 0 _ _ rfl rfl ?_
 refine an (fun c1 =>?_) (fun c1 =>?_)
 ·have c1:IntKind.i64.wrap ((↑q.at_:Int)+1)=1:=c1
  refine .sched [6] (upto [6] 15 0) (by kernel_rfl) ?_
  refine aa.mk 0 _ _ rfl rfl ?_
  refine aJ [] (qi _ _ _) ?_
  refine dL.mk M.hL ?_
  refine M.aLoad [_] hf fun m' hm =>?_
  refine ai.mk 0 _ _ rfl rfl ?_
  exact .done (iy (x:= { q with at_:=q.at_+1,b:=(M.O.ld (M.abs m) (e9 q.base)).1 }) (by simp[jQ,h0,show q.at_=0 by omega]) hm (by rw[hw];rfl))
 ·have c1:¬(IntKind.i64.wrap ((↑q.at_:Int)+1)=1):=c1
  refine an (fun c2 =>?_) (fun c2 =>?_)
  ·have c2:IntKind.i64.wrap ((↑q.at_:Int)+1)=2:=c2
   refine .sched [] (upto [] 15 0) (by kernel_rfl) ?_
   refine aa.mk 0 _ _ rfl rfl ?_
   refine dL.mk M.hL ?_
   refine M.aLoad [_] hf fun m' hm =>?_
   refine ai.mk 0 _ _ rfl rfl ?_
   refine .quiet (by kernel_rfl) ?_
   refine aa.mk 0 _ _ rfl rfl ?_
   refine aa.mk 0 _ _ rfl rfl ?_
   refine aa.mk 0 _ _ rfl rfl ?_
   refine aJ [] (EN _ _) ?_
   refine an (fun c3 =>?_) (fun c3 =>?_)
   ·have c3:(↑(rm q.cap):Int)≤IntKind.i64.wrap (IntKind.u64.wrap (q.b-(M.O.ld (M.abs m) q.base).fst)):=c3
    refine .fwd 1 ?_
    refine ai.mk 0 _ _ rfl rfl ?_
    exact .done (iy (x:= { q with at_:=q.at_+1,t:=(M.O.ld (M.abs m) q.base).1,ended:=true }) (by simp[jQ,h0,show q.at_=1 by omega,c3]) hm (by rw[hw];rfl))
   ·have c3:¬((↑(rm q.cap):Int)≤IntKind.i64.wrap (IntKind.u64.wrap (q.b-(M.O.ld (M.abs m) q.base).fst))):=c3
    exact .done (iy (x:= { q with at_:=q.at_+1,t:=(M.O.ld (M.abs m) q.base).1 }) (by unfold jQ wr wu;(repeat' split) <;> first | rfl | omega | simp_all) hm (by rw[hw];rfl))
  ·have c2:¬(IntKind.i64.wrap ((↑q.at_:Int)+1)=2):=c2
   refine an (fun c4 =>?_) (fun c4 =>?_)
   ·have c4:IntKind.i64.wrap ((↑q.at_:Int)+1)=3:=c4
    refine .sched [10] (upto [10] 19 0) (by kernel_rfl) ?_
    refine aa.mk 0 _ _ rfl rfl ?_
    refine aa.mk 0 _ _ rfl rfl ?_
    refine aJ [] (Ee _ _ _ _ hb) ?_
    refine aa.mk 0 _ _ rfl rfl ?_
    refine dL.mk M.hS ?_
    refine M.aStore [_] hf fun m' hm =>?_
    exact .done (iy (x:= { q with at_:=q.at_+1 }) (by simp[jQ,h0,show q.at_=2 by omega]) hm (by rw[hw];rfl))
   ·have c4:¬(IntKind.i64.wrap ((↑q.at_:Int)+1)=3):=c4
    refine .sched [5] (upto [5] 16 0) (by kernel_rfl) ?_
    refine aa.mk 0 _ _ rfl rfl ?_
    refine aJ [] (qi _ _ _) ?_
    refine aa.mk 0 _ _ rfl rfl ?_
    refine dL.mk M.hS ?_
    refine M.aStore [_] hf fun m' hm =>?_
    refine ai.mk 0 _ _ rfl rfl ?_
    refine .fwd 1 ?_
    refine ai.mk 0 _ _ rfl rfl ?_
    exact .done (iy (x:= { q with at_:=q.at_+1,ok:=true,ended:=true }) (by simp[jQ,h0,show q.at_≠0 by omega,show q.at_≠1 by omega,show q.at_≠2 by omega]) hm (by rw[hw];rfl))
def gT(O:gM)(q:DQ)(a:O.A):DQ×O.A×Bool:=
 if q.ended then (q,a,true)
 else if q.at_=0 then ({ q with at_:=q.at_+1,b:=wu ((O.ld a (e9 q.base)).1-1) },(O.ld a (e9 q.base)).2,false)
 else if q.at_=1 then ({ q with at_:=q.at_+1 },O.st a (e9 q.base) q.b,false)
 else if q.at_=2 then ({ q with at_:=q.at_+1,t:=(O.ld a q.base).1 },(O.ld a q.base).2,false)
 else if q.at_=3 then
  (if wr q.b<wr q.t then ({ q with at_:=q.at_+1,ended:=true },O.st a (e9 q.base) (wu (q.b+1)),true)
  else if wr q.t<wr q.b then ({ q with at_:=q.at_+1,x:=(O.ld a (jS q.base q.cap q.b)).1,ok:=true,n:=(O.ld a (jS q.base q.cap q.b)).1,ended:=true },(O.ld a (jS q.base q.cap q.b)).2,true)
  else ({ q with at_:=q.at_+1,x:=(O.ld a (jS q.base q.cap q.b)).1 },(O.ld a (jS q.base q.cap q.b)).2,false))
 else if q.at_=4 then ({ q with at_:=q.at_+1,ok:=(O.cs a q.base q.t (wu (q.t+1))).1 },(O.cs a q.base q.t (wu (q.t+1))).2,false)
 else ({ q with at_:=q.at_+1,n:=if q.ok then q.x else q.n,ended:=true },O.st a (e9 q.base) (wu (q.b+1)),true)
theorem BH(M:AMem)(r:Nat)(q:DQ)(m:M.S)(d:Int)(σ:Hp)(hf:M.O.free (M.abs m))(dO:q.at_≤1000)(hb:0≤q.b):ACalls Tryz.prog 368 [.ptr r 0,M.v,.int .i64 d] ((r,jh q)::(M.B m++σ)) (mg M σ jh r (gT M.O q (M.abs m))):=by
 have hw:IntKind.i64.wrap ((q.at_:Int)+1)=((q.at_+1:Nat):Int):=by rw[IntKind.wrap_i64];omega
 refine okF Tryz.func368 (by kernel_rfl) ?_
 refine aa.gy 0 _ _ rfl rfl (fun h0 =>?_) (fun h0 =>?_)
 ·exact .done (gJ (x:=q) (by simp[gT,h0]) rfl)
 refine az [] (cu _ _ _) ?_
 refine aa.mk 0 _ _ rfl rfl ?_
 refine ai.mk 0 _ _ rfl rfl ?_
 refine aa.mk 0 _ _ rfl rfl ?_
 refine an (fun c1 =>?_) (fun c1 =>?_)
 ·have c1:IntKind.i64.wrap ((↑q.at_:Int)+1)=1:=c1
  refine .sched [6] (upto [6] 16 0) (by kernel_rfl) ?_
  refine aa.mk 0 _ _ rfl rfl ?_
  refine aJ [] (qi _ _ _) ?_
  refine dL.mk M.hL ?_
  refine M.aLoad [_] hf fun m' hm =>?_
  refine ai.mk 0 _ _ rfl rfl ?_
  exact .done (iy (x:= { q with at_:=q.at_+1,b:=wu ((M.O.ld (M.abs m) (e9 q.base)).1-1) }) (by unfold gT wr wu;(repeat' split) <;> first | rfl | omega | simp_all) hm (by rw[hw];rfl))
 ·have c1:¬(IntKind.i64.wrap ((↑q.at_:Int)+1)=1):=c1
  refine an (fun c2 =>?_) (fun c2 =>?_)
  ·have c2:IntKind.i64.wrap ((↑q.at_:Int)+1)=2:=c2
   refine .sched [5] (upto [5] 15 0) (by kernel_rfl) ?_
   refine aa.mk 0 _ _ rfl rfl ?_
   refine aJ [] (qi _ _ _) ?_
   refine aa.mk 0 _ _ rfl rfl ?_
   refine dL.mk M.hS ?_
   refine M.aStore [_] hf fun m' hm =>?_
   exact .done (iy (x:= { q with at_:=q.at_+1 }) (by unfold gT wr wu;(repeat' split) <;> first | rfl | omega | simp_all) hm (by rw[hw];rfl))
  ·have c2:¬(IntKind.i64.wrap ((↑q.at_:Int)+1)=2):=c2
   refine an (fun c3 =>?_) (fun c3 =>?_)
   ·have c3:IntKind.i64.wrap ((↑q.at_:Int)+1)=3:=c3
    refine .sched [] (upto [] 15 0) (by kernel_rfl) ?_
    refine aa.mk 0 _ _ rfl rfl ?_
    refine dL.mk M.hL ?_
    refine M.aLoad [_] hf fun m' hm =>?_
    refine ai.mk 0 _ _ rfl rfl ?_
    exact .done (iy (x:= { q with at_:=q.at_+1,t:=(M.O.ld (M.abs m) q.base).1 }) (by unfold gT wr wu;(repeat' split) <;> first | rfl | omega | simp_all) hm (by rw[hw];rfl))
   ·have c3:¬(IntKind.i64.wrap ((↑q.at_:Int)+1)=3):=c3
    refine an (fun c4 =>?_) (fun c4 =>?_)
    ·have c4:IntKind.i64.wrap ((↑q.at_:Int)+1)=4:=c4
     refine .quiet (by kernel_rfl) ?_
     refine aa.mk 0 _ _ rfl rfl ?_
     refine aa.mk 0 _ _ rfl rfl ?_
     refine an (fun c5 =>?_) (fun c5 =>?_)
     ·have c5:IntKind.i64.wrap q.b<IntKind.i64.wrap q.t:=c5
      refine .fwd 1 ?_
      refine .sched [5] (upto [5] 16 0) (by kernel_rfl) ?_
      refine aa.mk 0 _ _ rfl rfl ?_
      refine aJ [] (qi _ _ _) ?_
      refine aa.mk 0 _ _ rfl rfl ?_
      refine dL.mk M.hS ?_
      refine M.aStore [_] hf fun m' hm =>?_
      refine ai.mk 0 _ _ rfl rfl ?_
      exact .done (iy (x:= { q with at_:=q.at_+1,ended:=true }) (by unfold gT wr wu;(repeat' split) <;> first | rfl | omega | simp_all) hm (by rw[hw];rfl))
     ·have c5:¬(IntKind.i64.wrap q.b<IntKind.i64.wrap q.t):=c5
      refine .sched [11] (upto [11] 20 0) (by kernel_rfl) ?_
      refine aa.mk 0 _ _ rfl rfl ?_
      refine aa.mk 0 _ _ rfl rfl ?_
      refine aJ [] (Ee _ _ _ _ hb) ?_
      refine dL.mk M.hL ?_
      refine M.aLoad [_] hf fun m' hm =>?_
      refine ai.mk 0 _ _ rfl rfl ?_
      refine .quiet (by kernel_rfl) ?_
      refine aa.mk 0 _ _ rfl rfl ?_
      refine aa.mk 0 _ _ rfl rfl ?_
      refine an (fun c6 =>?_) (fun c6 =>?_)
      ·have c6:IntKind.i64.wrap q.t<IntKind.i64.wrap q.b:=c6
       refine aa.mk 0 _ _ rfl rfl ?_
       refine ai.mk 0 _ _ rfl rfl ?_
       refine ai.mk 0 _ _ rfl rfl ?_
       refine .fwd 1 ?_
       refine ai.mk 0 _ _ rfl rfl ?_
       exact .done (iy (x:= { q with at_:=q.at_+1,x:=(M.O.ld (M.abs m) (jS q.base q.cap q.b)).1,ok:=true,n:=(M.O.ld (M.abs m) (jS q.base q.cap q.b)).1,ended:=true }) (by unfold gT wr wu;(repeat' split) <;> first | rfl | omega | simp_all) hm (by rw[hw];rfl))
      ·have c6:¬(IntKind.i64.wrap q.t<IntKind.i64.wrap q.b):=c6
       exact .done (iy (x:= { q with at_:=q.at_+1,x:=(M.O.ld (M.abs m) (jS q.base q.cap q.b)).1 }) (by unfold gT wr wu;(repeat' split) <;> first | rfl | omega | simp_all) hm (by rw[hw];rfl))
    ·have c4:¬(IntKind.i64.wrap ((↑q.at_:Int)+1)=4):=c4
     refine an (fun c7 =>?_) (fun c7 =>?_)
     ·have c7:IntKind.i64.wrap ((↑q.at_:Int)+1)=5:=c7
      refine .sched [] (upto [] 25 0) (by kernel_rfl) ?_
      refine aa.mk 0 _ _ rfl rfl ?_
      refine aa.mk 0 _ _ rfl rfl ?_
      refine aa.mk 0 _ _ rfl rfl ?_
      refine dL.mk M.hC ?_
      refine M.aCas [_] hf fun m' hm =>?_
      refine ai.mk 0 _ _ rfl rfl ?_
      exact .done (iy (x:= { q with at_:=q.at_+1,ok:=(M.O.cs (M.abs m) q.base q.t (wu (q.t+1))).1 }) (by unfold gT wr wu;(repeat' split) <;> first | rfl | omega | simp_all) hm (by rw[hw];rfl))
     ·have c7:¬(IntKind.i64.wrap ((↑q.at_:Int)+1)=5):=c7
      refine aa.gy 0 _ _ rfl rfl (fun c8 =>?_) (fun c8 =>?_)
      ·refine aa.mk 0 _ _ rfl rfl ?_
       refine ai.mk 0 _ _ rfl rfl ?_
       refine .fwd 1 ?_
       refine .sched [5] (upto [5] 16 0) (by kernel_rfl) ?_
       refine aa.mk 0 _ _ rfl rfl ?_
       refine aJ [] (qi _ _ _) ?_
       refine aa.mk 0 _ _ rfl rfl ?_
       refine dL.mk M.hS ?_
       refine M.aStore [_] hf fun m' hm =>?_
       refine ai.mk 0 _ _ rfl rfl ?_
       exact .done (iy (x:= { q with at_:=q.at_+1,n:=q.x,ended:=true }) (by unfold gT wr wu;(repeat' split) <;> first | rfl | omega | simp_all) hm (by rw[hw];rfl))
      ·refine .fwd 1 ?_
       refine .sched [5] (upto [5] 16 0) (by kernel_rfl) ?_
       refine aa.mk 0 _ _ rfl rfl ?_
       refine aJ [] (qi _ _ _) ?_
       refine aa.mk 0 _ _ rfl rfl ?_
       refine dL.mk M.hS ?_
       refine M.aStore [_] hf fun m' hm =>?_
       refine ai.mk 0 _ _ rfl rfl ?_
       exact .done (iy (x:= { q with at_:=q.at_+1,ended:=true }) (by unfold gT wr wu;(repeat' split) <;> first | rfl | omega | simp_all) hm (by rw[hw];rfl))
def jq(O:gM)(q:DQ)(a:O.A):DQ×O.A×Bool:=
 if q.ended then (q,a,true)
 else if q.at_=0 then ({ q with at_:=q.at_+1,t:=(O.ld a q.base).1 },(O.ld a q.base).2,false)
 else if q.at_=1 then
  (if wr (O.ld a (e9 q.base)).1≤wr q.t then ({ q with at_:=q.at_+1,b:=(O.ld a (e9 q.base)).1,ended:=true },(O.ld a (e9 q.base)).2,true)
  else ({ q with at_:=q.at_+1,b:=(O.ld a (e9 q.base)).1 },(O.ld a (e9 q.base)).2,false))
 else if q.at_=2 then ({ q with at_:=q.at_+1,x:=(O.ld a (jS q.base q.cap q.t)).1 },(O.ld a (jS q.base q.cap q.t)).2,false)
 else ({ q with at_:=q.at_+1,ok:=(O.cs a q.base q.t (wu (q.t+1))).1,n:=if (O.cs a q.base q.t (wu (q.t+1))).1 then q.x else q.n,ended:=true },(O.cs a q.base q.t (wu (q.t+1))).2,true)
theorem AS(M:AMem)(r:Nat)(q:DQ)(m:M.S)(d:Int)(σ:Hp)(hf:M.O.free (M.abs m))(dO:q.at_≤1000)(hb:0≤q.t):ACalls Tryz.prog 370 [.ptr r 0,M.v,.int .i64 d] ((r,jh q)::(M.B m++σ)) (mg M σ jh r (jq M.O q (M.abs m))):=by
 have hw:IntKind.i64.wrap ((q.at_:Int)+1)=((q.at_+1:Nat):Int):=by rw[IntKind.wrap_i64];omega
 refine okF Tryz.func370 (by kernel_rfl) ?_
 refine aa.gy 0 _ _ rfl rfl (fun h0 =>?_) (fun h0 =>?_)
 ·exact .done (gJ (x:=q) (by simp[jq,h0]) rfl)
 refine az [] (cu _ _ _) ?_
 refine aa.mk 0 _ _ rfl rfl ?_
 refine ai.mk 0 _ _ rfl rfl ?_
 refine aa.mk 0 _ _ rfl rfl ?_
 refine an (fun c1 =>?_) (fun c1 =>?_)
 ·have c1:IntKind.i64.wrap ((↑q.at_:Int)+1)=1:=c1
  refine .sched [] (upto [] 15 0) (by kernel_rfl) ?_
  refine aa.mk 0 _ _ rfl rfl ?_
  refine dL.mk M.hL ?_
  refine M.aLoad [_] hf fun m' hm =>?_
  refine ai.mk 0 _ _ rfl rfl ?_
  exact .done (iy (x:= { q with at_:=q.at_+1,t:=(M.O.ld (M.abs m) q.base).1 }) (by unfold jq wr wu;(repeat' split) <;> first | rfl | omega | simp_all) hm (by rw[hw];rfl))
 ·have c1:¬(IntKind.i64.wrap ((↑q.at_:Int)+1)=1):=c1
  refine an (fun c2 =>?_) (fun c2 =>?_)
  ·have c2:IntKind.i64.wrap ((↑q.at_:Int)+1)=2:=c2
   refine .sched [6] (upto [6] 15 0) (by kernel_rfl) ?_
   refine aa.mk 0 _ _ rfl rfl ?_
   refine aJ [] (qi _ _ _) ?_
   refine dL.mk M.hL ?_
   refine M.aLoad [_] hf fun m' hm =>?_
   refine ai.mk 0 _ _ rfl rfl ?_
   refine .quiet (by kernel_rfl) ?_
   refine aa.mk 0 _ _ rfl rfl ?_
   refine aa.mk 0 _ _ rfl rfl ?_
   refine an (fun c3 =>?_) (fun c3 =>?_)
   ·have c3:IntKind.i64.wrap (M.O.ld (M.abs m) (e9 q.base)).fst≤IntKind.i64.wrap q.t:=c3
    refine .fwd 1 ?_
    refine ai.mk 0 _ _ rfl rfl ?_
    exact .done (iy (x:= { q with at_:=q.at_+1,b:=(M.O.ld (M.abs m) (e9 q.base)).1,ended:=true }) (by unfold jq wr wu;(repeat' split) <;> first | rfl | omega | simp_all) hm (by rw[hw];rfl))
   ·have c3:¬(IntKind.i64.wrap (M.O.ld (M.abs m) (e9 q.base)).fst≤IntKind.i64.wrap q.t):=c3
    exact .done (iy (x:= { q with at_:=q.at_+1,b:=(M.O.ld (M.abs m) (e9 q.base)).1 }) (by unfold jq wr wu;(repeat' split) <;> first | rfl | omega | simp_all) hm (by rw[hw];rfl))
  ·have c2:¬(IntKind.i64.wrap ((↑q.at_:Int)+1)=2):=c2
   refine an (fun c4 =>?_) (fun c4 =>?_)
   ·have c4:IntKind.i64.wrap ((↑q.at_:Int)+1)=3:=c4
    refine .sched [11] (upto [11] 20 0) (by kernel_rfl) ?_
    refine aa.mk 0 _ _ rfl rfl ?_
    refine aa.mk 0 _ _ rfl rfl ?_
    refine aJ [] (Ee _ _ _ _ hb) ?_
    refine dL.mk M.hL ?_
    refine M.aLoad [_] hf fun m' hm =>?_
    refine ai.mk 0 _ _ rfl rfl ?_
    exact .done (iy (x:= { q with at_:=q.at_+1,x:=(M.O.ld (M.abs m) (jS q.base q.cap q.t)).1 }) (by unfold jq wr wu;(repeat' split) <;> first | rfl | omega | simp_all) hm (by rw[hw];rfl))
   ·have c4:¬(IntKind.i64.wrap ((↑q.at_:Int)+1)=3):=c4
    refine .sched [] (upto [] 25 0) (by kernel_rfl) ?_
    refine aa.mk 0 _ _ rfl rfl ?_
    refine aa.mk 0 _ _ rfl rfl ?_
    refine aa.mk 0 _ _ rfl rfl ?_
    refine dL.mk M.hC ?_
    refine M.aCasB [_] hf (fun m' hm hb =>?_) (fun m' hm hb =>?_)
    ·refine ai.mk 0 _ _ rfl rfl ?_
     refine aa.mk 0 _ _ rfl rfl ?_
     refine aa.mk 0 _ _ rfl rfl ?_
     refine ai.mk 0 _ _ rfl rfl ?_
     refine .fwd 1 ?_
     refine ai.mk 0 _ _ rfl rfl ?_
     exact .done (iy (x:= { q with at_:=q.at_+1,ok:=true,n:=q.x,ended:=true }) (by unfold jq wr wu;(repeat' split) <;> first | rfl | omega | simp_all) hm (by rw[hw];rfl))
    ·refine ai.mk 0 _ _ rfl rfl ?_
     refine aa.mk 0 _ _ rfl rfl ?_
     refine .fwd 1 ?_
     refine ai.mk 0 _ _ rfl rfl ?_
     exact .done (iy (x:= { q with at_:=q.at_+1,ok:=false,ended:=true }) (by unfold jq wr wu;(repeat' split) <;> first | rfl | omega | simp_all) hm (by rw[hw];rfl))
theorem Ul(p q:Nat)(ws:List Int)(b c:Int)(σ:Hp):ACalls Tryz.prog 53 [.agg [.int .i64 b,.int .i64 c],gx p] (aY p q ws σ) (aB (.tup []) (aY p q (fj (fj ws b 1) (e9 b) 1) σ)):=by
 refine okF Tryz.func53 (by kernel_rfl) ?_
 intro aC
 refine az [] (cu _ _ _) ?_
 refine aa.mk 0 _ _ rfl rfl ?_
 refine⟨_,mStore_,?_⟩
 refine az [2,2] (aStore p q _ _ _ _) ?_
 refine .sched [2] (upto [2] 7 0) (by kernel_rfl) ?_
 refine aa.mk 2 _ _ rfl rfl ?_
 refine aJ [] (qi _ _ _) ?_
 refine dL.mk hStore_ ?_
 refine⟨_,mStore_,?_⟩
 refine az [] (aStore p q _ _ _ _) ?_
 exact .drop 2 1 (.done ⟨rfl,rfl⟩)
end Go.Proofs.YtnpidbjdilnhlaaGreat
