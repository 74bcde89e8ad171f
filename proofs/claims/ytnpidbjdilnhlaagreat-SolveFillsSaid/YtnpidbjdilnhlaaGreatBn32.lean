import Derived.Test.YtnpidbjdilnhlaaGreatBn31
import Derived.Test.YtnpidbjdilnhlaaGreatBn26
namespace Go.Proofs.YtnpidbjdilnhlaaGreat
open Go.RowKit
set_option maxRecDepth 100000
def gr(ag w:Int)(i:Nat)(z:Int):Prop:=bh z∧(if ag=3 then bf z=z else z.toNat<2 ^ min 64 (df w-64*i))
theorem Of(ag w:Int)(i:Nat):gr ag w i 0:=by
 refine⟨⟨by decide,by decide⟩,?_⟩
 split
 ·rfl
 ·exact Nat.two_pow_pos _
theorem Og{ag w:Int}(h:ag=1∨ag=2∨ag=3){i:Nat}{x y:Int}(hx:gr ag w i x)(hy:gr ag w i y):gr ag w i (jT ag x y):=by
 refine⟨SH hx.1 hy.1,?_⟩
 have ux:=hx.1
 have uy:=hy.1
 obtain⟨a,rfl⟩:=Int.eq_ofNat_of_zero_le ux.1
 obtain⟨b,rfl⟩:=Int.eq_ofNat_of_zero_le uy.1
 have ha:a<18446744073709551616:=by have:=ux.2;omega
 have hb:b<18446744073709551616:=by have:=uy.2;omega
 rcases h with rfl | rfl | rfl
 ·have h1:=hx.2
  have h2:=hy.2
  rw[if_neg (by decide)]at h1 h2 ⊢
  rw[show jT 1 (a:Int) b=bits .or .u64 (a:Int) b from rfl,Cu ha hb,Int.toNat_natCast]
  exact Nat.or_lt_two_pow h1 h2
 ·have h1:=hx.2
  rw[if_neg (by decide)]at h1 ⊢
  rw[show jT 2 (a:Int) b=bits .and .u64 (a:Int) b from rfl,wh ha hb,Int.toNat_natCast]
  exact Nat.lt_of_le_of_lt Nat.and_le_left h1
 ·rw[if_pos rfl]
  exact ON _ _
theorem wE{ag w:Int}{a:List Int}(hi:bX ag w=true):mN ag w a↔((a.length:Int)=cT ag w∧∀i,i<a.length→gr ag w i (wd a i)):=by
 constructor
 ·intro ⟨hv,gC⟩
  refine⟨An hv,fun i h=>⟨qn gC i,?_⟩⟩
  by_cases h3:ag=3
  ·rw[if_pos h3]
   exact Tv ((wP hi h3).1 hv).2 h
  ·rw[if_neg h3]
   have:=(uI hi h3).1 hv
   unfold ef at this
   rw[Bool.and_eq_true,List.all_eq_true]at this
   simpa using this.2 i (List.mem_range.2 h)
 ·intro ⟨hl,hk⟩
  have gC:bJ a:=fun z hz=>by
   obtain⟨i,hi,rfl⟩:=List.mem_iff_getElem.1 hz
   rw[← ly a hi];exact (hk i hi).1
  refine⟨?_,gC⟩
  by_cases h3:ag=3
  ·subst h3
   refine (wP hi rfl).2 ⟨?_,w9.2 fun z hz =>?_⟩
   ·rw[hl];unfold cT;rw[if_pos hi,if_pos rfl]
   ·obtain⟨i,hi,rfl⟩:=List.mem_iff_getElem.1 hz
    have:=(hk i hi).2
    rw[if_pos rfl,ly a hi]at this
    exact this
  ·refine (uI hi h3).2 ?_
   have FY:a.length=cx w:=by
    have:cT ag w=(cx w:Int):=by unfold cT;rw[if_pos hi,if_neg h3]
    omega
   unfold ef
   rw[Bool.and_eq_true,List.all_eq_true]
   refine⟨by simpa using FY,fun i hi =>?_⟩
   have:=(hk i (List.mem_range.1 hi)).2
   rw[if_neg h3]at this
   simpa using this
structure LS(s:Sy)(l:Lay):Prop where
 fit:Fit s
 kr:Good s
 ag:l.ag=s.ag
 words:l.words=cT s.ag s.w
 n:l.n=s.n
 k1:1≤l.k
 k2:l.k≤64
abbrev nN(s:Sy):Nat:=s.n.toNat
abbrev nW(l:Lay):Nat:=cw l.words
theorem LS.nn{s:Sy}{l:Lay}(h:LS s l):s.n=(nN s:Int)∧1≤nN s∧nN s≤256:=by have:=h.kr.n1;have:=h.kr.n2;unfold nN;omega
theorem LS.ww{s:Sy}{l:Lay}(h:LS s l):l.words=(nW l:Int)∧nW l≤1024:=by
 have:=sX s.ag s.w
 have:=h.words
 unfold nW cw;omega
theorem uO{N W v i:Nat}(hv:v<N)(hi:i<W):v*W+i<N*W:=by
 have:(v+1)*W≤N*W:=Nat.mul_le_mul_right _ hv
 rw[Nat.add_mul]at this
 omega
theorem RZ{W u v i j:Nat}(hi:i<W)(hj:j<W)(h:u*W+i=v*W+j):u=v∧i=j:=by
 have h1:(u*W+i) / W=u:=by rw[Nat.mul_comm,Nat.mul_add_div (by omega),Nat.div_eq_of_lt hi,Nat.add_zero]
 have h2:(v*W+j) / W=v:=by rw[Nat.mul_comm,Nat.mul_add_div (by omega),Nat.div_eq_of_lt hj,Nat.add_zero]
 have h3:u=v:=by rw[← h1,← h2,h]
 subst h3
 exact⟨rfl,by omega⟩
theorem pj{N W:Nat}(hN:N≤256)(hW:W≤1024):N*W≤262144:=Nat.mul_le_mul hN hW
theorem fh{z:Int}(h0:0≤z)(h1:z<9223372036854775808):wr z=z:=by
 show IntKind.i64.wrap z=z
 rw[IntKind.wrap_i64];omega
section
variable {s:Sy} {l:Lay} (hs:LS s l)
include hs
theorem LS.flags:gp l=((nN s*nW l:Nat):Int):=by
 have h1:=hs.nn
 have h2:=hs.ww
 have:=pj h1.2.2 h2.2
 unfold gp
 rw[hs.n,h1.1,h2.1,← Int.natCast_mul]
 exact fh (by omega) (by omega)
theorem LS.count:gU l=((nN s*nW l+nN s:Nat):Int):=by
 have h1:=hs.nn
 have h2:=hs.ww
 have:=pj h1.2.2 h2.2
 unfold gU
 rw[hs.flags,hs.n,h1.1,Int.natCast_add]
 exact fh (by omega) (by omega)
theorem LS.room:fE l=((nN s+1:Nat):Int)∧rm (fE l)=nN s+1:=by
 have h1:=hs.nn
 have e:fE l=((nN s+1:Nat):Int):=by
  unfold fE
  rw[hs.n,h1.1,Int.natCast_add]
  exact fh (by omega) (by omega)
 refine⟨e,?_⟩
 rw[e];unfold rm;omega
theorem LS.qv{k:Nat}(hk:k≤64):dC l k=((nN s*nW l+nN s+1+k*(nN s+3):Nat):Int):=by
 have h1:=hs.nn
 have h2:=hs.ww
 have h3:=pj h1.2.2 h2.2
 have h4:k*(nN s+3)≤64*259:=Nat.mul_le_mul hk (by omega)
 unfold dC
 rw[hs.count,hs.room.2,show ((k:Int)*((2+(nN s+1):Nat):Int))=((k*(nN s+3):Nat):Int) by rw[Int.natCast_mul];congr 1;omega]
 rw[fh (z:=((k*(nN s+3):Nat):Int)) (by omega) (by omega),fh (z:=((nN s*nW l+nN s:Nat):Int)+1) (by omega) (by omega)]
 rw[show ((nN s*nW l+nN s:Nat):Int)+1+((k*(nN s+3):Nat):Int)=((nN s*nW l+nN s+1+k*(nN s+3):Nat):Int) by omega]
 exact fh (by omega) (by omega)
theorem LS.LW{v:Nat}(hv:v<nN s):cy l v=((v*nW l:Nat):Int):=by
 have h1:=hs.nn
 have h2:=hs.ww
 have h3:=pj h1.2.2 h2.2
 have h4:v*nW l≤nN s*nW l:=Nat.mul_le_mul_right _ (by omega)
 unfold cy
 rw[h2.1,← Int.natCast_mul]
 exact fh (by omega) (by omega)
theorem LS.Bd{v i:Nat}(hv:v<nN s)(hi:i<nW l):wr (cy l v+(i:Nat))=((v*nW l+i:Nat):Int):=by
 have h1:=hs.nn
 have h2:=hs.ww
 have h3:=pj h1.2.2 h2.2
 have h4:=uO hv hi
 rw[hs.LW hv,← Int.natCast_add]
 exact fh (by omega) (by omega)
theorem LS.A9{v:Nat}(hv:v<nN s):wr (gp l+(v:Nat))=((nN s*nW l+v:Nat):Int):=by
 have h1:=hs.nn
 have h2:=hs.ww
 have h3:=pj h1.2.2 h2.2
 rw[hs.flags,← Int.natCast_add]
 exact fh (by omega) (by omega)
theorem LS.VV:s.ag=1∨s.ag=2∨s.ag=3:=by
 have:=hs.kr.qV
 unfold bX at this
 simp at this
 omega
end
structure MV(s:Sy)(l:Lay)(ws:List Int):Prop where
 a64:bJ ws
 cells:∀v i,v<nN s→i<nW l→gr s.ag s.w i (ws.getD (v*nW l+i) 0)
theorem JA{ws:List Int}{a b:Nat}{x:Int}:(ws.set a x).getD b 0=if a=b∧b<ws.length then x else ws.getD b 0:=by
 simp only[List.getD_eq_getElem?_getD,List.getElem?_set]
 by_cases h:a=b
 ·subst h
  by_cases h2:a<ws.length
  ·simp[h2]
  ·simp[h2]
 ·simp[h]
theorem MV.uF{s:Sy}{l:Lay}{ws:List Int}(h:MV s l ws){a x:Int}(ha:((nN s*nW l:Nat):Int)≤a)(hx:bh x):MV s l (fj ws a x):=by
 refine⟨IW h.a64 a hx,fun v i hv hi =>?_⟩
 have:=uO hv hi
 obtain⟨k,rfl⟩:=Int.eq_ofNat_of_zero_le (show 0≤a by omega)
 rw[jn,JA,if_neg (by omega)]
 exact h.cells v i hv hi
theorem MV.AQ{s:Sy}{l:Lay}{ws:List Int}(h:MV s l ws){a o x:Int}(ha:((nN s*nW l:Nat):Int)≤a)(hx:bh x):MV s l (iP ws a o x):=by
 unfold iP;split
 ·exact h.uF ha hx
 ·exact h
theorem MV.Ll{s:Sy}{l:Lay}{ws:List Int}(h:MV s l ws){a x:Int}(ha:((nN s*nW l:Nat):Int)≤a):MV s l (kJ ws a x):=by
 unfold kJ;split
 ·exact h.uF ha (by unfold bh;omega)
 ·exact h
theorem MV.Ho{s:Sy}{l:Lay}{ws:List Int}(h:MV s l ws){u j:Nat}{x:Int}(hj:j<nW l)(hx:gr s.ag s.w j x):MV s l (fj ws ((u*nW l+j:Nat):Int) x):=by
 refine⟨IW h.a64 _ hx.1,fun v i hv hi =>?_⟩
 rw[jn,JA]
 split
 ·rename_i he
  obtain⟨-,rfl⟩:=RZ hj hi he.1
  exact hx
 ·exact h.cells v i hv hi
theorem MV.R0{s:Sy}{l:Lay}{ws:List Int}(h:MV s l ws){u j:Nat}{o x:Int}(hj:j<nW l)(hx:gr s.ag s.w j x):MV s l (iP ws ((u*nW l+j:Nat):Int) o x):=by
 unfold iP;split
 ·exact h.Ho hj hx
 ·exact h
theorem MV.load{s:Sy}{l:Lay}{ws:List Int}(h:MV s l ws){v i:Nat}(hv:v<nN s)(hi:i<nW l):gr s.ag s.w i (fM ws ((v*nW l+i:Nat):Int)):=by
 rw[kE];exact h.cells v i hv hi
structure DQ.w4(q:DQ)(m:Nat):Prop where
 at_:q.at_≤m
 b:bh q.b
 t:bh q.t
 n:bh q.n
 x:bh q.x
 en:q.ended=false
def xO(s:Sy)(l:Lay)(aw ao node:Int)(nx out:List Int):Nw→Prop
 | .none=>False
 | .pop q=>ao=0∧q.w4 5∧q.base=dC l aw∧q.cap=fE l
 | .dT q=>ao=1∧q.w4 3∧(∃v:Nat,(v:Int)<l.k∧q.base=dC l v)∧q.cap=fE l∧q.ok=false
 | .quiet t=>ao=2∧t=⟨gp l,gU l,false,false⟩
 | .clear t=>ao=3∧t=⟨gp l,gU l,node,false⟩
 | .read y=>ao=4∧(y.length<nW l∨(nW l=0∧y=[]))∧∀i,i<y.length→gr s.ag s.w i (wd y i)
 | .join j=>ao=5∧(j.base=cy l (nx.headD 0)∧j.ag=l.ag∧j.words=l.words∧j.a=out)∧j.ended=false∧j.at_≤nW l∧bh j.x∧(j.gG=true→j.at_<nW l∧gr s.ag s.w j.at_ j.x)
 | .take t=>ao=6∧∃iN:Bool,t=⟨gp l,gU l,nx.headD 0,iN,false,iN⟩
 | .push q=>ao=7∧q.w4 3∧q.base=dC l aw∧q.cap=fE l∧q.ok=false
 | .fB t=>ao=8∧t=⟨gp l,gU l,0,false⟩
def kept(l:Lay):Nw→Prop
 | .none | .quiet _ | .clear _ | .fB _=>False
 | .read y=>y.length<nW l
 | .join j=>j.at_<nW l
 | .take t=>t.iN=true
 | _=>True
structure WV(s:Sy)(l:Lay)(aw:Int)(x:WS):Prop where
 ao:0≤x.ao∧x.ao≤8
 node:0≤x.node∧x.node<s.n
 nx:∀u∈x.nx,0≤u∧u<s.n
 head:x.ao=5∨x.ao=6∨x.ao=7→0<x.nx.length
 out:x.ao=5∨x.ao=6∨x.ao=7→mN s.ag s.w x.out
 Fv:x.ao=1→2≤l.k
 now:x.now=.none∨(xO s l aw x.ao x.node x.nx x.out x.now∧kept l x.now)
theorem wv0{s:Sy}{l:Lay}(hs:LS s l)(aw:Int):WV s l aw pG:=
 ⟨by decide,⟨Int.le_refl _,hs.kr.n1⟩,fun u hu=>(List.not_mem_nil hu).elim,fun h=>absurd h (by decide),fun h=>absurd h (by decide),fun h=>absurd h (by decide),.inl rfl⟩
theorem WV.ok{s:Sy}{l:Lay}(hs:LS s l){aw:Int}{x:WS}(h:WV s l aw x):EX l x:=by
 refine⟨h.head,fun h1=>V5 ⟨h.Fv h1,hs.k2⟩,?_⟩
 have hh:=h.head
 rcases h.now with h0 | ⟨h1,h2⟩
 ·rw[h0];trivial
 ·cases hn:x.now with
  | none=>trivial
  | pop q=>rw[hn]at h1;exact⟨h1.2.1.at_,h1.2.1.b.1⟩
  | dT q=>rw[hn]at h1;exact⟨h1.2.1.at_,h1.2.1.t.1⟩
  | quiet q=>trivial
  | clear q=>trivial
  | read y =>
   rw[hn]at h1
   refine⟨h1.2.1,fun z hz =>?_⟩
   obtain⟨i,hi,rfl⟩:=List.mem_iff_getElem.1 hz
   rw[← ly y hi];exact (h1.2.2 i hi).1
  | join j=>rw[hn]at h1;have:=hs.ww.2;exact⟨by have:=h1.2.2.2.1;omega,hh (.inl h1.1)⟩
  | take t=>rw[hn]at h1;exact hh (.inr (.inl h1.1))
  | push q=>rw[hn]at h1;exact⟨⟨h1.2.1.at_,h1.2.1.b.1⟩,hh (.inr (.inr h1.1))⟩
  | fB t=>trivial
theorem LS.Wq{s:Sy}{l:Lay}(hs:LS s l){k:Nat}(hk:k≤64):((nN s*nW l:Nat):Int)≤dC l k∧((nN s*nW l:Nat):Int)≤e9 (dC l k)∧∀i,((nN s*nW l:Nat):Int)≤jS (dC l k) (fE l) i:=by
 have h1:=hs.nn
 have h2:=hs.ww
 have h3:=pj h1.2.2 h2.2
 have h4:k*(nN s+3)≤64*259:=Nat.mul_le_mul hk (by omega)
 have hd:=hs.qv hk
 refine⟨by omega,?_,fun i =>?_⟩
 ·unfold e9;rw[hd,fh (by omega) (by omega)];omega
 ·unfold jS
  rw[hs.room.2]
  have hm:=Int.emod_nonneg i (show ((nN s+1:Nat):Int)≠0 by omega)
  have ny:=Int.emod_lt_of_pos i (show (0:Int)<((nN s+1:Nat):Int) by omega)
  rw[hd,fh (z:=((nN s*nW l+nN s+1+k*(nN s+3):Nat):Int)+2) (by omega) (by omega),fh (z:=i % _) hm (by omega),fh (by omega) (by omega)]
  omega
theorem ve(n:Int):bh (wu n):=wY n
section
variable {s:Sy} {l:Lay} {ws ws':List Int} {q q':DQ} {b:Bool}
theorem PG(hw:MV s l ws)(hq:q.w4 5)(hb:((nN s*nW l:Nat):Int)≤e9 q.base)(h0:((nN s*nW l:Nat):Int)≤q.base)(h:gT dK q ws=(q',ws',b)):MV s l ws'∧ws'.length=ws.length∧q'.base=q.base∧q'.cap=q.cap∧bh q'.n∧(b=false→q'.w4 5):=by
 obtain⟨base,cap,n,ok,ended,at_,bb,t,x⟩:=q
 obtain⟨h1,h2,h3,h4,h5,h6⟩:=hq
 have l1:=fun a=>Ay hw.a64 a
 have s1:=fun {a} {x} (ha:((nN s*nW l:Nat):Int)≤a) (hx:bh x)=>hw.uF ha hx
 have c1:=fun {a} {o} {x} (ha:((nN s*nW l:Nat):Int)≤a) (hx:bh x)=>hw.AQ (o:=o) ha hx
 dsimp only at *
 subst h6
 unfold gT at h
 dsimp only at h
 repeat' split at h
 all_goals
  cases h
  refine⟨?_,?_,rfl,rfl,?_,fun hb =>?_⟩
 all_goals first
  | contradiction
  | assumption
  | rfl
  | exact uu _ _ _
  | exact rr _ _ _ _
  | exact s1 hb h2
  | exact s1 hb (ve _)
  | exact c1 h0 (ve _)
  | exact l1 _
  | (dsimp only;split <;> assumption)
  | exact⟨by dsimp only;omega,by first | assumption | exact l1 _ | exact ve _,by first | assumption | exact l1 _,by first | assumption | exact l1 _,by first | assumption | exact l1 _,rfl⟩
theorem Nz(hw:MV s l ws)(hq:q.w4 3)(h0:((nN s*nW l:Nat):Int)≤q.base)(hk:q.ok=false)(h:jq dK q ws=(q',ws',b)):MV s l ws'∧ws'.length=ws.length∧q'.base=q.base∧q'.cap=q.cap∧bh q'.n∧(b=false→q'.w4 3∧q'.ok=false):=by
 obtain⟨base,cap,n,ok,ended,at_,bb,t,x⟩:=q
 obtain⟨h1,h2,h3,h4,h5,h6⟩:=hq
 have l1:=fun a=>Ay hw.a64 a
 have c1:=fun {a} {o} {x} (ha:((nN s*nW l:Nat):Int)≤a) (hx:bh x)=>hw.AQ (o:=o) ha hx
 dsimp only at *
 subst h6;subst hk
 unfold jq at h
 dsimp only at h
 repeat' split at h
 all_goals
  cases h
  refine⟨?_,?_,rfl,rfl,?_,fun hb =>?_⟩
 all_goals first
  | contradiction
  | assumption
  | rfl
  | exact uu _ _ _
  | exact rr _ _ _ _
  | exact c1 h0 (ve _)
  | exact l1 _
  | exact⟨⟨by dsimp only;omega,by first | assumption | exact l1 _,by first | assumption | exact l1 _,by first | assumption | exact l1 _,by first | assumption | exact l1 _,rfl⟩,rfl⟩
theorem OB(hw:MV s l ws)(hq:q.w4 3)(hb:((nN s*nW l:Nat):Int)≤e9 q.base)(hp:∀i,((nN s*nW l:Nat):Int)≤jS q.base q.cap i)(hk:q.ok=false)(h:jQ dK q ws=(q',ws',b)):MV s l ws'∧ws'.length=ws.length∧q'.base=q.base∧q'.cap=q.cap∧bh q'.n∧(b=false→q'.w4 3∧q'.ok=false):=by
 obtain⟨base,cap,n,ok,ended,at_,bb,t,x⟩:=q
 obtain⟨h1,h2,h3,h4,h5,h6⟩:=hq
 have l1:=fun a=>Ay hw.a64 a
 have s1:=fun {a} {x} (ha:((nN s*nW l:Nat):Int)≤a) (hx:bh x)=>hw.uF ha hx
 dsimp only at *
 subst h6;subst hk
 unfold jQ at h
 dsimp only at h
 repeat' split at h
 all_goals
  cases h
  refine⟨?_,?_,rfl,rfl,?_,fun hb =>?_⟩
 all_goals first
  | contradiction
  | assumption
  | rfl
  | exact uu _ _ _
  | exact rr _ _ _ _
  | exact s1 hb (ve _)
  | exact s1 (hp _) h4
  | exact l1 _
  | exact⟨⟨by dsimp only;omega,by first | assumption | exact l1 _,by first | assumption | exact l1 _,by first | assumption | exact l1 _,by first | assumption | exact l1 _,rfl⟩,rfl⟩
end
theorem UF{y:List Int}{z:Int}{i:Nat}:wd (y++[z]) i=if i<y.length then wd y i else if i=y.length then z else 0:=by
 unfold wd
 rw[List.getElem?_append]
 by_cases h:i<y.length
 ·rw[if_pos h,if_pos h]
 ·rw[if_neg h,if_neg h]
  by_cases h2:i=y.length
  ·subst h2;simp
  ·rw[if_neg h2,List.getElem?_eq_none (by show 1≤_;omega)];rfl
theorem Ox{s:Sy}{l:Lay}{ws ws':List Int}{y y':List Int}{b:Bool}(hs:LS s l)(hw:MV s l ws){v:Nat}(hv:v<nN s)(hy:y.length<nW l∨(nW l=0∧y=[]))(hk:∀i,i<y.length→gr s.ag s.w i (wd y i))(h:mS dK l (cy l v) y ws=(y',ws',b)):ws'=ws∧(∀i,i<y'.length→gr s.ag s.w i (wd y' i))∧(b=false→y'.length<nW l)∧(b=true→mN s.ag s.w y'):=by
 have BS:=hs.ww
 unfold mS at h
 split at h
 ·rename_i ab
  have ab:y.length<nW l:=ab
  cases h
  have e:∀i,i<(y++[(dK.ld ws (wr (cy l v+(y.length:Nat)))).1]).length→gr s.ag s.w i (wd (y++[(dK.ld ws (wr (cy l v+(y.length:Nat)))).1]) i):=fun i hi=>by
   rw[List.length_append]at hi
   have hi:i<y.length+1:=hi
   rw[UF]
   by_cases h1:i<y.length
   ·rw[if_pos h1];exact hk i h1
   ·obtain rfl:i=y.length:=by omega
    rw[if_neg h1,if_pos rfl]
    show gr _ _ _ (fM ws _)
    rw[hs.Bd hv ab]
    exact hw.load hv ab
  refine⟨rfl,e,fun hb =>?_,fun hb =>?_⟩
  ·have hb:¬y.length+1=nW l:=of_decide_eq_false hb
   rw[List.length_append];show y.length+1<_;omega
  ·have hb:y.length+1=nW l:=of_decide_eq_true hb
   refine (wE hs.kr.qV).2 ⟨?_,e⟩
   rw[← hs.words,BS.1,List.length_append];show ((y.length+1:Nat):Int)=_;omega
 ·rename_i ab
  obtain⟨h1,h2⟩:=Prod.mk.inj h
  obtain⟨h2,h3⟩:=Prod.mk.inj h2
  subst h1;subst h2;subst h3
  have h0:nW l=0∧y=[]:=by
   rcases hy with h | h
   ·exact absurd h ab
   ·exact h
  refine⟨rfl,hk,fun hb=>(by cases hb),fun _ =>?_⟩
  refine (wE hs.kr.qV).2 ⟨?_,hk⟩
  rw[← hs.words,BS.1,h0.1,h0.2];rfl
theorem OM{s:Sy}{l:Lay}{ws ws':List Int}{j j':Jn}{b:Bool}(hs:LS s l)(hw:MV s l ws){u:Nat}(hu:u<nN s)(A6:j.base=cy l u)(V7:j.ag=l.ag)(U7:j.words=l.words)(ha:mN s.ag s.w j.a)(kp:j.ended=false)(dO:j.at_≤nW l)(hx:bh j.x)(hl:j.gG=true→j.at_<nW l∧gr s.ag s.w j.at_ j.x)(h:iQ dK j ws=(j',ws',b)):
  MV s l ws'∧ws'.length=ws.length∧(j'.base=j.base∧j'.ag=j.ag∧j'.words=j.words∧j'.a=j.a)∧(b=false→j'.ended=false∧j'.at_<nW l∧bh j'.x∧(j'.gG=true→gr s.ag s.w j'.at_ j'.x)):=by
 obtain⟨base,ag,words,a,changed,ended,tries,at_,gG,x⟩:=j
 dsimp only at *
 subst A6;subst kp;subst V7;subst U7
 have BS:=hs.ww
 have pJ:∀i,i<nW l→gr s.ag s.w i (wd a i):=fun i hi=>by
  have:=(wE hs.kr.qV).1 ha
  refine this.2 i ?_
  have h2:=this.1
  rw[← hs.words,BS.1]at h2
  omega
 unfold iQ at h
 dsimp only at h
 split at h
 ·contradiction
 split at h
 ·cases h
  exact⟨hw,rfl,⟨rfl,rfl,rfl,rfl⟩,fun hb=>by cases hb⟩
 rename_i E9
 have ab:at_<nW l:=by have:¬at_=nW l:=E9;omega
 have hA:=hs.Bd hu ab
 have FX:gr s.ag s.w at_ (fM ws (wr (cy l u+(at_:Nat)))):=by rw[hA];exact hw.load hu ab
 rw[hs.ag]at h
 split at h
 ·rename_i Xs
  have mC:=(hl Xs).2
  have B0:=Og hs.VV mC (pJ at_ ab)
  have hM:∀o,MV s l (iP ws (wr (cy l u+(at_:Nat))) o (jT s.ag x (wd a at_))):=fun o=>by rw[hA];exact hw.R0 ab B0
  split at h
  ·unfold o8 at h
   dsimp only at h
   split at h
   ·rename_i hn
    cases h
    exact⟨hM _,rr _ _ _ _,⟨rfl,hs.ag.symm,rfl,rfl⟩,fun _=>⟨rfl,hn,hx,fun hc=>by cases hc⟩⟩
   ·cases h
    exact⟨hM _,rr _ _ _ _,⟨rfl,hs.ag.symm,rfl,rfl⟩,fun hb=>by cases hb⟩
  ·cases h
   exact⟨hM _,rr _ _ _ _,⟨rfl,hs.ag.symm,rfl,rfl⟩,fun _=>⟨rfl,ab,hx,fun hc=>by cases hc⟩⟩
 ·split at h
  ·unfold o8 at h
   dsimp only at h
   split at h
   ·rename_i hn
    cases h
    exact⟨hw,rfl,⟨rfl,hs.ag.symm,rfl,rfl⟩,fun _=>⟨rfl,hn,FX.1,fun hc=>absurd hc (by assumption)⟩⟩
   ·cases h
    exact⟨hw,rfl,⟨rfl,hs.ag.symm,rfl,rfl⟩,fun hb=>by cases hb⟩
  ·cases h
   exact⟨hw,rfl,⟨rfl,hs.ag.symm,rfl,rfl⟩,fun _=>⟨rfl,ab,FX.1,fun _=>FX⟩⟩
def MB(s:Sy)(ao:Int):Nw→Prop
 | .none=>False
 | .pop q=>bh q.n
 | .dT q=>bh q.n
 | .read y=>mN s.ag s.w y
 | .join _=>ao=5
 | .take _=>ao=6
 | .push _=>ao=7
 | _=>True
theorem Kj{nx:List Int}{n:Int}(h:∀u∈nx,0≤u∧u<n)(h0:0<nx.length):∃u:Nat,nx.headD 0=u∧(u:Int)<n:=by
 cases nx with
 | nil=>cases h0
 | cons u r =>
  have:=h u (List.mem_cons_self ..)
  exact⟨u.toNat,by show u=_;omega,by omega⟩
theorem PT{s:Sy}{l:Lay}{ws ws':List Int}{aw ao node:Int}{nx out:List Int}{n n':Nw}{b:Bool}(hs:LS s l)(hw:MV s l ws)(se:0≤aw∧aw<l.k)(qp:0≤node∧node<s.n)(bF:∀u∈nx,0≤u∧u<s.n)(hh:ao=5∨ao=6∨ao=7→0<nx.length)(ho:ao=5∨ao=6∨ao=7→mN s.ag s.w out)
  (hb:xO s l aw ao node nx out n) (h:iO dK l node n ws=(n',ws',b)):MV s l ws'∧ws'.length=ws.length∧(b=false→xO s l aw ao node nx out n'∧kept l n')∧(b=true→MB s ao n'):=by
 have cD:=hs.k2
 have hd:∀k:Nat,(k:Int)<l.k→((nN s*nW l:Nat):Int)≤dC l k∧((nN s*nW l:Nat):Int)≤e9 (dC l k)∧∀i,((nN s*nW l:Nat):Int)≤jS (dC l k) (fE l) i:=fun k hk=>hs.Wq (by omega)
 obtain⟨me,rfl⟩:=Int.eq_ofNat_of_zero_le se.1
 obtain⟨v,rfl⟩:=Int.eq_ofNat_of_zero_le qp.1
 have hv:v<nN s:=by have:=hs.nn;omega
 have B2:=hd me se.2
 cases n with
 | none=>exact hb.elim
 | pop q =>
  obtain⟨q',a',b',ar⟩:∃q' a' b',gT dK q ws=(q',a',b'):=⟨_,_,_,rfl⟩
  rw[qk ar]at h
  cases h
  obtain⟨h1,h2,h3,h4⟩:=hb
  obtain⟨k1,k2,k3,k4,k5,k6⟩:=PG hw h2 (by rw[h3];exact B2.2.1) (by rw[h3];exact B2.1) ar
  exact⟨k1,k2,fun hb=>⟨⟨h1,k6 hb,k3.trans h3,k4.trans h4⟩,trivial⟩,fun _=>k5⟩
 | dT q =>
  obtain⟨q',a',b',ar⟩:∃q' a' b',jq dK q ws=(q',a',b'):=⟨_,_,_,rfl⟩
  rw[qa ar]at h
  cases h
  obtain⟨h1,h2,⟨k,hk,h3⟩,h4,h5⟩:=hb
  obtain⟨k1,k2,k3,k4,k5,k6⟩:=Nz hw h2 (by rw[h3];exact (hd k hk).1) h5 ar
  exact⟨k1,k2,fun hb=>⟨⟨h1,(k6 hb).1,⟨k,hk,k3.trans h3⟩,k4.trans h4,(k6 hb).2⟩,trivial⟩,fun _=>k5⟩
 | quiet t =>
  obtain⟨h1,rfl⟩:=hb
  cases h
  exact⟨hw,rfl,fun hb=>(by cases hb),fun _=>trivial⟩
 | clear t =>
  obtain⟨h1,rfl⟩:=hb
  cases h
  refine⟨?_,?_,fun hb=>(by cases hb),fun _=>trivial⟩
  ·show MV s l (if 0≤(v:Int) then fj ws (wr (gp l+(v:Nat))) 0 else ws)
   rw[if_pos (by omega),hs.A9 hv]
   exact hw.uF (by omega) (by unfold bh;omega)
  ·show (if 0≤(v:Int) then fj ws (wr (gp l+(v:Nat))) 0 else ws).length=_
   rw[if_pos (by omega)];exact uu _ _ _
 | read y =>
  obtain⟨y',a',b',ar⟩:∃y' a' b',mS dK l (cy l v) y ws=(y',a',b'):=⟨_,_,_,rfl⟩
  rw[s9 ar]at h
  cases h
  obtain⟨h1,h2,h3⟩:=hb
  obtain⟨rfl,k2,k3,k4⟩:=Ox hs hw hv h2 h3 ar
  exact⟨hw,rfl,fun hb=>⟨⟨h1,.inl (k3 hb),k2⟩,k3 hb⟩,fun hb=>k4 hb⟩
 | join j =>
  obtain⟨j',a',b',ar⟩:∃j' a' b',iQ dK j ws=(j',a',b'):=⟨_,_,_,rfl⟩
  rw[qe ar]at h
  cases h
  obtain⟨h1,⟨h2,h3,h4,h5⟩,h6,h7,h8,h9⟩:=hb
  obtain⟨u,hu,eb⟩:=Kj bF (hh (.inl h1))
  obtain⟨k1,k2,⟨k3,k4,k5,k6⟩,k7⟩:=OM hs hw (u:=u) (by have:=hs.nn;omega) (by rw[h2,hu]) h3 h4 (by rw[h5];exact ho (.inl h1)) h6 h7 h8 h9 ar
  refine⟨k1,k2,fun hb =>?_,fun _=>h1⟩
  obtain⟨m1,m2,m3,m4⟩:=k7 hb
  exact⟨⟨h1,⟨k3.trans h2,k4.trans h3,k5.trans h4,k6.trans h5⟩,m1,Nat.le_of_lt m2,m3,fun hc=>⟨m2,m4 hc⟩⟩,m2⟩
 | take t =>
  obtain⟨h1,iN,rfl⟩:=hb
  obtain⟨u,hu,eb⟩:=Kj bF (hh (.inr (.inl h1)))
  have hu2:u<nN s:=by have:=hs.nn;omega
  rw[hu]at h
  have fy:((nN s*nW l:Nat):Int)≤wr (gp l+(u:Nat)):=by rw[hs.A9 hu2];omega
  have uf:((nN s*nW l:Nat):Int)≤gU l:=by rw[hs.count];omega
  cases iN with
  | true =>
   cases h
   exact⟨hw.Ll uf,GK _ _ _,fun hb=>(by cases hb),fun _=>h1⟩
  | false =>
   obtain⟨t',a',b',ar⟩:∃t' a' b',kI dK ⟨gp l,gU l,(u:Nat),false,false,false⟩ ws=(t',a',b'):=⟨_,_,_,rfl⟩
   rw[qd ar]at h
   cases h
   unfold kI at ar
   dsimp only at ar
   rw[if_neg (by decide),if_neg (by decide),if_pos (by omega)]at ar
   split at ar
   ·cases ar
    exact⟨hw.AQ fy (by unfold bh;omega),rr _ _ _ _,fun _=>⟨⟨h1,true,by rw[hu]⟩,rfl⟩,fun hb=>(by cases hb)⟩
   ·cases ar
    exact⟨hw.AQ fy (by unfold bh;omega),rr _ _ _ _,fun hb=>(by cases hb),fun _=>h1⟩
 | push q =>
  obtain⟨q',a',b',ar⟩:∃q' a' b',jQ dK q ws=(q',a',b'):=⟨_,_,_,rfl⟩
  rw[xb ar]at h
  cases h
  obtain⟨h1,h2,h3,h4,h5⟩:=hb
  obtain⟨k1,k2,k3,k4,k5,k6⟩:=OB hw h2 (by rw[h3];exact B2.2.1) (by rw[h3,h4];exact B2.2.2) h5 ar
  exact⟨k1,k2,fun hb=>⟨⟨h1,(k6 hb).1,k3.trans h3,k4.trans h4,(k6 hb).2⟩,trivial⟩,fun _=>h1⟩
 | fB t =>
  obtain⟨h1,rfl⟩:=hb
  cases h
  have uf:((nN s*nW l:Nat):Int)≤gU l:=by rw[hs.count];omega
  exact⟨hw.Ll uf,GK _ _ _,fun hb=>(by cases hb),fun _=>trivial⟩
theorem uD:bh 0:=by unfold bh;omega
theorem D8(base cap n:Int)(m:Nat)(h:bh n):(um base cap n).w4 m:=⟨Nat.zero_le _,uD,uD,h,uD,rfl⟩
theorem SV{d n:Int}(hn:0<n): -n<d.tmod n∧d.tmod n<n:=⟨by have:=Int.tmod_lt_of_pos (-d) hn;rw[Int.neg_tmod]at this;omega,Int.tmod_lt_of_pos _ hn⟩
theorem Pm{s:Sy}{l:Lay}(hs:LS s l){aw:Int}(se:0≤aw∧aw<l.k)(h2:2≤l.k)(d:Int):∃v:Nat,wZ l aw d=v∧(v:Int)<l.k:=by
 have cD:=hs.k2
 have hnk:nK l=l.k-1:=fh (by omega) (by omega)
 have h1:=SV (d:=d) (n:=l.k-1) (by omega)
 unfold wZ
 rw[hnk]
 generalize d.tmod (l.k-1)=a at h1
 rw[fh (z:=a+(l.k-1)) (by omega) (by omega),fh (z:=aw+1) (by omega) (by omega)]
 have h3:0≤(a+(l.k-1)).tmod (l.k-1):=Int.tmod_nonneg _ (by omega)
 have h4:=Int.tmod_lt_of_pos (a+(l.k-1)) (show 0<l.k-1 by omega)
 generalize (a+(l.k-1)).tmod (l.k-1)=c at h3 h4
 rw[fh (by omega) (by omega)]
 have h5:0≤(aw+1+c).tmod l.k:=Int.tmod_nonneg _ (by omega)
 have h6:=Int.tmod_lt_of_pos (aw+1+c) (show 0<l.k by omega)
 exact⟨_,(Int.toNat_of_nonneg h5).symm,by omega⟩
theorem Tu{s:Sy}{l:Lay}{aw:Int}{x:WS}{d:Int}(hs:LS s l)(se:0≤aw∧aw<l.k)(h:WV s l aw x):xO s l aw x.ao x.node x.nx x.out (nH l aw x d):=by
 have hd:=h.ao
 have hw:=hs.ww
 rcases h.now with h0 | h0
 ·unfold nH
  rw[h0]
  show xO s l aw x.ao x.node x.nx x.out (gw l aw x.ao x.node x.nx x.out d)
  unfold gw
  repeat' split
  ·exact⟨by assumption,D8 _ _ _ _ (by unfold bh;omega),rfl,rfl⟩
  ·rename_i h1
   obtain⟨v,hv,hvk⟩:=Pm hs se (h.Fv h1) d
   exact⟨h1,D8 _ _ _ _ (by unfold bh;omega),⟨v,hvk,by rw[← hv];rfl⟩,rfl,rfl⟩
  ·exact⟨by assumption,rfl⟩
  ·exact⟨by assumption,rfl⟩
  ·refine⟨by assumption,?_,fun i hi=>absurd hi (Nat.not_lt_zero _)⟩
   rcases Nat.eq_zero_or_pos (nW l) with h | h
   ·exact .inr ⟨h,rfl⟩
   ·exact .inl h
  ·exact⟨by assumption,⟨rfl,rfl,rfl,rfl⟩,rfl,Nat.zero_le _,uD,fun hc=>by cases hc⟩
  ·exact⟨by assumption,false,rfl⟩
  ·exact⟨by assumption,D8 _ _ _ _ (ve _),rfl,rfl,rfl⟩
  ·exact⟨by omega,rfl⟩
 ·unfold nH
  split
  ·rename_i hn;rw[hn]at h0;exact h0.1.elim
  ·exact h0.1
theorem K7{s:Sy}{l:Lay}(hs:LS s l){n:Int}(h:bh n):0≤mW l n∧mW l n<s.n:=by
 have hn:=hs.nn
 have e:wu l.n=s.n:=by
  show IntKind.u64.wrap l.n=_
  rw[IntKind.wrap_u64,hs.n];omega
 unfold mW
 rw[e]
 split
 ·omega
 ·rw[fh h.1 (by omega)]
  exact⟨h.1,by omega⟩
theorem ma{s:Sy}{l:Lay}{aw:Int}{x:WS}(h0:x.now=.none)(h1:0≤x.ao∧x.ao≤8)(h2:0≤x.node∧x.node<s.n)(h3:∀u∈x.nx,0≤u∧u<s.n)(h4:x.ao=5∨x.ao=6∨x.ao=7→0<x.nx.length∧mN s.ag s.w x.out)(h5:x.ao=1→2≤l.k):WV s l aw x:=
 ⟨h1,h2,h3,fun h=>(h4 h).1,fun h=>(h4 h).2,h5,.inl h0⟩
theorem Vj{s:Sy}{l:Lay}{aw:Int}{x:WS}{n:Nw}(hs:LS s l)(h:WV s l aw x)(he:MB s x.ao n):WV s l aw (fq s l x n):=by
 have g:=fun n=>OS l n
 have f:=OT x.nx
 have r:=PA s x.node
 have no:=NQ l
 have qu:=OA l
 have ua:∀u∈x.nx.tail,0≤u∧u<s.n:=fun u hu=>h.nx u (List.mem_of_mem_tail hu)
 cases n with
 | none=>exact he.elim
 | pop q =>
  have g:=g q.n
  by_cases hq:q.ok=true
  ·rw[show fq s l x (.pop q)=⟨x.ev,x.jo,x.en,oZ l q.n,.none,mW l q.n,true,x.nx,x.out⟩ from if_pos hq]
   exact ma rfl (by dsimp only;omega) (K7 hs he) h.nx (fun h=>by dsimp only at h;omega) (fun h=>by dsimp only at h;omega)
  ·rw[show fq s l x (.pop q)=⟨x.ev,x.jo,x.en,s6 l,.none,x.node,x.has,x.nx,x.out⟩ from if_neg hq]
   exact ma rfl (by dsimp only;omega) h.node h.nx (fun h=>by dsimp only at h;omega) (fun h=>by dsimp only at h;omega)
 | dT q =>
  have g:=g q.n
  by_cases hq:q.ok=true
  ·rw[show fq s l x (.dT q)=⟨x.ev,x.jo,x.en,oZ l q.n,.none,mW l q.n,true,x.nx,x.out⟩ from if_pos hq]
   exact ma rfl (by dsimp only;omega) (K7 hs he) h.nx (fun h=>by dsimp only at h;omega) (fun h=>by dsimp only at h;omega)
  ·rw[show fq s l x (.dT q)=⟨x.ev,x.jo,x.en,2,.none,x.node,x.has,x.nx,x.out⟩ from if_neg hq]
   exact ma rfl (by dsimp only;omega) h.node h.nx (fun h=>by dsimp only at h;omega) (fun h=>by dsimp only at h;omega)
 | quiet q=>exact ma rfl (by dsimp only[fq];omega) h.node h.nx (fun h=>by dsimp only[fq]at h;omega) (fun h=>by dsimp only[fq]at h;omega)
 | clear q=>exact ma rfl (by dsimp only[fq];omega) h.node h.nx (fun h=>by dsimp only[fq]at h;omega) (fun h=>by dsimp only[fq]at h;omega)
 | read y =>
  obtain⟨v,hv⟩:=Int.eq_ofNat_of_zero_le h.node.1
  have cW:=h.node.2
  have hE:nj s x.node y=0:=Rc ((CW (P8 hs.kr) h.node).symm) he.v
  have hV:mN s.ag s.w (pI (nj s x.node y) (ni s y x.node.toNat)):=by
   rw[hE,show pI 0 (ni s y x.node.toNat)=ni s y x.node.toNat from rfl]
   have:=Tf hs.fit hs.kr he.ic he.v (v:=x.node.toNat) (by omega)
   exact⟨this.1,this.2⟩
  exact ma rfl (by dsimp only[fq];omega) h.node (fun u hu=>(iv.1 hu).1) (fun h=>⟨by dsimp only[fq]at h ⊢;omega,hV⟩) (fun h=>by dsimp only[fq]at h;omega)
 | join q =>
  have hh:=h.head (.inl he)
  have ho:=h.out (.inl he)
  by_cases hq:q.changed=true
  ·rw[show fq s l x (.join q)=⟨x.ev,wr (x.jo+1),x.en,6,.none,x.node,x.has,x.nx,x.out⟩ from if_pos hq]
   exact ma rfl (by dsimp only;omega) h.node h.nx (fun _=>⟨hh,ho⟩) (fun h=>by dsimp only at h;omega)
  ·rw[show fq s l x (.join q)=⟨x.ev,x.jo,x.en,mX x.nx,.none,x.node,x.has,x.nx.tail,x.out⟩ from if_neg hq]
   exact ma rfl (by dsimp only;omega) h.node ua (fun h=>⟨by dsimp only at h ⊢;omega,ho⟩) (fun h=>by dsimp only at h;omega)
 | take q =>
  have hh:=h.head (.inr (.inl he))
  have ho:=h.out (.inr (.inl he))
  by_cases hq:q.new=true
  ·rw[show fq s l x (.take q)=⟨x.ev,x.jo,x.en,7,.none,x.node,x.has,x.nx,x.out⟩ from if_pos hq]
   exact ma rfl (by dsimp only;omega) h.node h.nx (fun _=>⟨hh,ho⟩) (fun h=>by dsimp only at h;omega)
  ·rw[show fq s l x (.take q)=⟨x.ev,x.jo,x.en,mX x.nx,.none,x.node,x.has,x.nx.tail,x.out⟩ from if_neg hq]
   exact ma rfl (by dsimp only;omega) h.node ua (fun h=>⟨by dsimp only at h ⊢;omega,ho⟩) (fun h=>by dsimp only at h;omega)
 | push q =>
  have ho:=h.out (.inr (.inr he))
  exact ma rfl (by dsimp only[fq];omega) h.node ua (fun h=>⟨by dsimp only[fq]at h ⊢;omega,ho⟩) (fun h=>by dsimp only[fq]at h;omega)
 | fB q=>exact ma rfl (by dsimp only[fq];omega) h.node h.nx (fun h=>by dsimp only[fq]at h;omega) (fun h=>by dsimp only[fq]at h;omega)
theorem SM{s:Sy}{l:Lay}{aw:Int}{x:WS}{d:Int}{ws:List Int}(hs:LS s l)(se:0≤aw∧aw<l.k)(hw:MV s l ws)(h:WV s l aw x):MV s l (dq dK s l aw x d ws).2.1∧(dq dK s l aw x d ws).2.1.length=ws.length∧WV s l aw (dq dK s l aw x d ws).1:=by
 obtain⟨n',ws',b,ar⟩:∃n' ws' b,iO dK l x.node (nH l aw x d) ws=(n',ws',b):=⟨_,_,_,rfl⟩
 obtain⟨k1,k2,k3,k4⟩:=PT hs hw se h.node h.nx h.head h.out (Tu hs se h (d:=d)) ar
 unfold dq
 rw[ar]
 dsimp only
 split
 ·exact⟨hw,rfl,h⟩
 ·split
  ·rename_i hb
   exact⟨k1,k2,Vj hs h (k4 hb)⟩
  ·rename_i hb
   exact⟨k1,k2,h.ao,h.node,h.nx,h.head,h.out,h.Fv,.inr (k3 (by simpa using hb))⟩
end Go.Proofs.YtnpidbjdilnhlaaGreat
