import Derived.Test.YtnpidbjdilnhlaaGreatBn28
import Derived.Test.YtnpidbjdilnhlaaGreatBn20
namespace Go.Proofs.YtnpidbjdilnhlaaGreat
open Go.RowKit
set_option maxRecDepth 100000
def eG(what w:Int)(i:Nat)(z:Int):Prop:=bf z∧(if what=3 then bj z=z else z.toNat<2 ^ min 64 (dR w-64*i))
theorem SK(what w:Int)(i:Nat):eG what w i 0:=by
 refine⟨⟨by decide,by decide⟩,?_⟩
 split
 ·rfl
 ·exact Nat.two_pow_pos _
theorem yZ{what w:Int}(h:what=1∨what=2∨what=3){i:Nat}{x y:Int}(hx:eG what w i x)(hy:eG what w i y):eG what w i (cu what x y):=by
 refine⟨N6 hx.1 hy.1,?_⟩
 have ux:=hx.1
 have uy:=hy.1
 obtain⟨a,rfl⟩:=Int.eq_ofNat_of_zero_le ux.1
 obtain⟨b,rfl⟩:=Int.eq_ofNat_of_zero_le uy.1
 have ha:a<18446744073709551616:=by have:=ux.2;omega
 have hb:b<18446744073709551616:=by have:=uy.2;omega
 rcases h with rfl | rfl | rfl
 ·have h1:=hx.2
  have h2:=hy.2
  rw[if_neg (by decide)]at h1 h2 ⊢
  rw[show cu 1 (a:Int) b=bits .or .u64 (a:Int) b from rfl,qB ha hb,Int.toNat_natCast]
  exact Nat.or_lt_two_pow h1 h2
 ·have h1:=hx.2
  rw[if_neg (by decide)]at h1 ⊢
  rw[show cu 2 (a:Int) b=bits .and .u64 (a:Int) b from rfl,pD ha hb,Int.toNat_natCast]
  exact Nat.lt_of_le_of_lt Nat.and_le_left h1
 ·rw[if_pos rfl]
  exact LC _ _
theorem Cx{what w:Int}{a:List Int}(hi:cE what w=true):dC what w a↔((a.length:Int)=eE what w∧∀i,i<a.length→eG what w i (wd a i)):=by
 constructor
 ·intro ⟨hv,kQ⟩
  refine⟨tF hv,fun i h=>⟨lX kQ i,?_⟩⟩
  by_cases h3:what=3
  ·rw[if_pos h3]
   exact tJ ((hG hi h3).1 hv).2 h
  ·rw[if_neg h3]
   have:=(nD hi h3).1 hv
   unfold fi at this
   rw[Bool.and_eq_true,List.all_eq_true]at this
   simpa using this.2 i (List.mem_range.2 h)
 ·intro ⟨hl,hk⟩
  have kQ:aS a:=fun z hz=>by
   obtain⟨i,hi,rfl⟩:=List.mem_iff_getElem.1 hz
   rw[← jK a hi];exact (hk i hi).1
  refine⟨?_,kQ⟩
  by_cases h3:what=3
  ·subst h3
   refine (hG hi rfl).2 ⟨?_,vr.2 fun z hz =>?_⟩
   ·rw[hl];unfold eE;rw[if_pos hi,if_pos rfl]
   ·obtain⟨i,hi,rfl⟩:=List.mem_iff_getElem.1 hz
    have:=(hk i hi).2
    rw[if_pos rfl,jK a hi]at this
    exact this
  ·refine (nD hi h3).2 ?_
   have JN:a.length=eb w:=by
    have:eE what w=(eb w:Int):=by unfold eE;rw[if_pos hi,if_neg h3]
    omega
   unfold fi
   rw[Bool.and_eq_true,List.all_eq_true]
   refine⟨by simpa using JN,fun i hi =>?_⟩
   have:=(hk i (List.mem_range.1 hi)).2
   rw[if_neg h3]at this
   simpa using this
structure LS(s:Sy)(l:Lay):Prop where
 fit:Fit s
 iT:Good s
 what:l.what=s.what
 words:l.words=eE s.what s.w
 n:l.n=s.n
 k1:1≤l.k
 k2:l.k≤64
abbrev nN(s:Sy):Nat:=s.n.toNat
abbrev nW(l:Lay):Nat:=cw l.words
theorem LS.nn{s:Sy}{l:Lay}(h:LS s l):s.n=(nN s:Int)∧1≤nN s∧nN s≤256:=by have:=h.iT.n1;have:=h.iT.n2;unfold nN;omega
theorem LS.ww{s:Sy}{l:Lay}(h:LS s l):l.words=(nW l:Int)∧nW l≤1024:=by
 have:=zf s.what s.w
 have:=h.words
 unfold nW cw;omega
theorem qH{N W v i:Nat}(hv:v<N)(hi:i<W):v*W+i<N*W:=by
 have:(v+1)*W≤N*W:=Nat.mul_le_mul_right _ hv
 rw[Nat.add_mul]at this
 omega
theorem NS{W u v i j:Nat}(hi:i<W)(hj:j<W)(h:u*W+i=v*W+j):u=v∧i=j:=by
 have h1:(u*W+i) / W=u:=by rw[Nat.mul_comm,Nat.mul_add_div (by omega),Nat.div_eq_of_lt hi,Nat.add_zero]
 have h2:(v*W+j) / W=v:=by rw[Nat.mul_comm,Nat.mul_add_div (by omega),Nat.div_eq_of_lt hj,Nat.add_zero]
 have h3:u=v:=by rw[← h1,← h2,h]
 subst h3
 exact⟨rfl,by omega⟩
theorem pO{N W:Nat}(hN:N≤256)(hW:W≤1024):N*W≤262144:=Nat.mul_le_mul hN hW
theorem fu{z:Int}(h0:0≤z)(h1:z<9223372036854775808):wr z=z:=by
 show IntKind.i64.wrap z=z
 rw[IntKind.wrap_i64];omega
section
variable {s:Sy} {l:Lay} (hs:LS s l)
include hs
theorem LS.flags:bR l=((nN s*nW l:Nat):Int):=by
 have h1:=hs.nn
 have h2:=hs.ww
 have:=pO h1.2.2 h2.2
 unfold bR
 rw[hs.n,h1.1,h2.1,← Int.natCast_mul]
 exact fu (by omega) (by omega)
theorem LS.count:bN l=((nN s*nW l+nN s:Nat):Int):=by
 have h1:=hs.nn
 have h2:=hs.ww
 have:=pO h1.2.2 h2.2
 unfold bN
 rw[hs.flags,hs.n,h1.1,Int.natCast_add]
 exact fu (by omega) (by omega)
theorem LS.room:du l=((nN s+1:Nat):Int)∧rm (du l)=nN s+1:=by
 have h1:=hs.nn
 have e:du l=((nN s+1:Nat):Int):=by
  unfold du
  rw[hs.n,h1.1,Int.natCast_add]
  exact fu (by omega) (by omega)
 refine⟨e,?_⟩
 rw[e];unfold rm;omega
theorem LS.ua{k:Nat}(hk:k≤64):fe l k=((nN s*nW l+nN s+1+k*(nN s+3):Nat):Int):=by
 have h1:=hs.nn
 have h2:=hs.ww
 have h3:=pO h1.2.2 h2.2
 have h4:k*(nN s+3)≤64*259:=Nat.mul_le_mul hk (by omega)
 unfold fe
 rw[hs.count,hs.room.2,show ((k:Int)*((2+(nN s+1):Nat):Int))=((k*(nN s+3):Nat):Int) by rw[Int.natCast_mul];congr 1;omega]
 rw[fu (z:=((k*(nN s+3):Nat):Int)) (by omega) (by omega),fu (z:=((nN s*nW l+nN s:Nat):Int)+1) (by omega) (by omega)]
 rw[show ((nN s*nW l+nN s:Nat):Int)+1+((k*(nN s+3):Nat):Int)=((nN s*nW l+nN s+1+k*(nN s+3):Nat):Int) by omega]
 exact fu (by omega) (by omega)
theorem LS.Qt{v:Nat}(hv:v<nN s):aK l v=((v*nW l:Nat):Int):=by
 have h1:=hs.nn
 have h2:=hs.ww
 have h3:=pO h1.2.2 h2.2
 have h4:v*nW l≤nN s*nW l:=Nat.mul_le_mul_right _ (by omega)
 unfold aK
 rw[h2.1,← Int.natCast_mul]
 exact fu (by omega) (by omega)
theorem LS.AK{v i:Nat}(hv:v<nN s)(hi:i<nW l):wr (aK l v+(i:Nat))=((v*nW l+i:Nat):Int):=by
 have h1:=hs.nn
 have h2:=hs.ww
 have h3:=pO h1.2.2 h2.2
 have h4:=qH hv hi
 rw[hs.Qt hv,← Int.natCast_add]
 exact fu (by omega) (by omega)
theorem LS.xY{v:Nat}(hv:v<nN s):wr (bR l+(v:Nat))=((nN s*nW l+v:Nat):Int):=by
 have h1:=hs.nn
 have h2:=hs.ww
 have h3:=pO h1.2.2 h2.2
 rw[hs.flags,← Int.natCast_add]
 exact fu (by omega) (by omega)
theorem LS.sh:s.what=1∨s.what=2∨s.what=3:=by
 have:=hs.iT.rr
 unfold cE at this
 simp at this
 omega
end
structure MV(s:Sy)(l:Lay)(ws:List Int):Prop where
 a64:aS ws
 cells:∀v i,v<nN s→i<nW l→eG s.what s.w i (ws.getD (v*nW l+i) 0)
theorem iv{ws:List Int}{a b:Nat}{x:Int}:(ws.set a x).getD b 0=if a=b∧b<ws.length then x else ws.getD b 0:=by
 simp only[List.getD_eq_getElem?_getD,List.getElem?_set]
 by_cases h:a=b
 ·subst h
  by_cases h2:a<ws.length
  ·simp[h2]
  ·simp[h2]
 ·simp[h]
theorem MV.xl{s:Sy}{l:Lay}{ws:List Int}(h:MV s l ws){a x:Int}(ha:((nN s*nW l:Nat):Int)≤a)(hx:bf x):MV s l (fN ws a x):=by
 refine⟨MU h.a64 a hx,fun v i hv hi =>?_⟩
 have:=qH hv hi
 obtain⟨k,rfl⟩:=Int.eq_ofNat_of_zero_le (show 0≤a by omega)
 rw[jJ,iv,if_neg (by omega)]
 exact h.cells v i hv hi
theorem MV.DO{s:Sy}{l:Lay}{ws:List Int}(h:MV s l ws){a o x:Int}(ha:((nN s*nW l:Nat):Int)≤a)(hx:bf x):MV s l (gw ws a o x):=by
 unfold gw;split
 ·exact h.xl ha hx
 ·exact h
theorem MV.PK{s:Sy}{l:Lay}{ws:List Int}(h:MV s l ws){a x:Int}(ha:((nN s*nW l:Nat):Int)≤a):MV s l (kX ws a x):=by
 unfold kX;split
 ·exact h.xl ha (by unfold bf;omega)
 ·exact h
theorem MV.Lk{s:Sy}{l:Lay}{ws:List Int}(h:MV s l ws){u j:Nat}{x:Int}(hj:j<nW l)(hx:eG s.what s.w j x):MV s l (fN ws ((u*nW l+j:Nat):Int) x):=by
 refine⟨MU h.a64 _ hx.1,fun v i hv hi =>?_⟩
 rw[jJ,iv]
 split
 ·rename_i he
  obtain⟨-,rfl⟩:=NS hj hi he.1
  exact hx
 ·exact h.cells v i hv hi
theorem MV.Xe{s:Sy}{l:Lay}{ws:List Int}(h:MV s l ws){u j:Nat}{o x:Int}(hj:j<nW l)(hx:eG s.what s.w j x):MV s l (gw ws ((u*nW l+j:Nat):Int) o x):=by
 unfold gw;split
 ·exact h.Lk hj hx
 ·exact h
theorem MV.load{s:Sy}{l:Lay}{ws:List Int}(h:MV s l ws){v i:Nat}(hv:v<nN s)(hi:i<nW l):eG s.what s.w i (cC ws ((v*nW l+i:Nat):Int)):=by
 rw[mD];exact h.cells v i hv hi
structure DQ.w4(q:DQ)(m:Nat):Prop where
 at_:q.at_≤m
 b:bf q.b
 t:bf q.t
 n:bf q.n
 x:bf q.x
 en:q.ended=false
def v8(s:Sy)(l:Lay)(who does node:Int)(nx out:List Int):Nw→Prop
 | .none=>False
 | .pop q=>does=0∧q.w4 5∧q.base=fe l who∧q.cap=du l
 | .bE q=>does=1∧q.w4 3∧(∃v:Nat,(v:Int)<l.k∧q.base=fe l v)∧q.cap=du l∧q.ok=false
 | .quiet t=>does=2∧t=⟨bR l,bN l,false,false⟩
 | .clear t=>does=3∧t=⟨bR l,bN l,node,false⟩
 | .read y=>does=4∧(y.length<nW l∨(nW l=0∧y=[]))∧∀i,i<y.length→eG s.what s.w i (wd y i)
 | .join j=>does=5∧(j.base=aK l (nx.headD 0)∧j.what=l.what∧j.words=l.words∧j.a=out)∧j.ended=false∧j.at_≤nW l∧bf j.x∧(j.ek=true→j.at_<nW l∧eG s.what s.w j.at_ j.x)
 | .take t=>does=6∧∃im:Bool,t=⟨bR l,bN l,nx.headD 0,im,false,im⟩
 | .push q=>does=7∧q.w4 3∧q.base=fe l who∧q.cap=du l∧q.ok=false
 | .cX t=>does=8∧t=⟨bR l,bN l,0,false⟩
def kept(l:Lay):Nw→Prop
 | .none | .quiet _ | .clear _ | .cX _=>False
 | .read y=>y.length<nW l
 | .join j=>j.at_<nW l
 | .take t=>t.im=true
 | _=>True
structure WV(s:Sy)(l:Lay)(who:Int)(x:WS):Prop where
 does:0≤x.does∧x.does≤8
 node:0≤x.node∧x.node<s.n
 nx:∀u∈x.nx,0≤u∧u<s.n
 head:x.does=5∨x.does=6∨x.does=7→0<x.nx.length
 out:x.does=5∨x.does=6∨x.does=7→dC s.what s.w x.out
 yw:x.does=1→2≤l.k
 now:x.now=.none∨(v8 s l who x.does x.node x.nx x.out x.now∧kept l x.now)
theorem wv0{s:Sy}{l:Lay}(hs:LS s l)(who:Int):WV s l who nr:=
 ⟨by decide,⟨Int.le_refl _,hs.iT.n1⟩,fun u hu=>(List.not_mem_nil hu).elim,fun h=>absurd h (by decide),fun h=>absurd h (by decide),fun h=>absurd h (by decide),.inl rfl⟩
theorem WV.ok{s:Sy}{l:Lay}(hs:LS s l){who:Int}{x:WS}(h:WV s l who x):IT l x:=by
 refine⟨h.head,fun h1=>aaW ⟨h.yw h1,hs.k2⟩,?_⟩
 have hh:=h.head
 rcases h.now with h0 | ⟨h1,h2⟩
 ·rw[h0];trivial
 ·cases hn:x.now with
  | none=>trivial
  | pop q=>rw[hn]at h1;exact⟨h1.2.1.at_,h1.2.1.b.1⟩
  | bE q=>rw[hn]at h1;exact⟨h1.2.1.at_,h1.2.1.t.1⟩
  | quiet q=>trivial
  | clear q=>trivial
  | read y =>
   rw[hn]at h1
   refine⟨h1.2.1,fun z hz =>?_⟩
   obtain⟨i,hi,rfl⟩:=List.mem_iff_getElem.1 hz
   rw[← jK y hi];exact (h1.2.2 i hi).1
  | join j=>rw[hn]at h1;have:=hs.ww.2;exact⟨by have:=h1.2.2.2.1;omega,hh (.inl h1.1)⟩
  | take t=>rw[hn]at h1;exact hh (.inr (.inl h1.1))
  | push q=>rw[hn]at h1;exact⟨⟨h1.2.1.at_,h1.2.1.b.1⟩,hh (.inr (.inr h1.1))⟩
  | cX t=>trivial
theorem LS.abh{s:Sy}{l:Lay}(hs:LS s l){k:Nat}(hk:k≤64):((nN s*nW l:Nat):Int)≤fe l k∧((nN s*nW l:Nat):Int)≤eJ (fe l k)∧∀i,((nN s*nW l:Nat):Int)≤jL (fe l k) (du l) i:=by
 have h1:=hs.nn
 have h2:=hs.ww
 have h3:=pO h1.2.2 h2.2
 have h4:k*(nN s+3)≤64*259:=Nat.mul_le_mul hk (by omega)
 have hd:=hs.ua hk
 refine⟨by omega,?_,fun i =>?_⟩
 ·unfold eJ;rw[hd,fu (by omega) (by omega)];omega
 ·unfold jL
  rw[hs.room.2]
  have hm:=Int.emod_nonneg i (show ((nN s+1:Nat):Int)≠0 by omega)
  have rD:=Int.emod_lt_of_pos i (show (0:Int)<((nN s+1:Nat):Int) by omega)
  rw[hd,fu (z:=((nN s*nW l+nN s+1+k*(nN s+3):Nat):Int)+2) (by omega) (by omega),fu (z:=i % _) hm (by omega),fu (by omega) (by omega)]
  omega
theorem xP(n:Int):bf (wu n):=zM n
section
variable {s:Sy} {l:Lay} {ws ws':List Int} {q q':DQ} {b:Bool}
theorem Ul(hw:MV s l ws)(hq:q.w4 5)(hb:((nN s*nW l:Nat):Int)≤eJ q.base)(h0:((nN s*nW l:Nat):Int)≤q.base)(h:ei aT q ws=(q',ws',b)):MV s l ws'∧ws'.length=ws.length∧q'.base=q.base∧q'.cap=q.cap∧bf q'.n∧(b=false→q'.w4 5):=by
 obtain⟨base,cap,n,ok,ended,at_,bb,t,x⟩:=q
 obtain⟨h1,h2,h3,h4,h5,h6⟩:=hq
 have l1:=fun a=>Dk hw.a64 a
 have s1:=fun {a} {x} (ha:((nN s*nW l:Nat):Int)≤a) (hx:bf x)=>hw.xl ha hx
 have c1:=fun {a} {o} {x} (ha:((nN s*nW l:Nat):Int)≤a) (hx:bf x)=>hw.DO (o:=o) ha hx
 dsimp only at *
 subst h6
 unfold ei at h
 dsimp only at h
 repeat' split at h
 all_goals
  cases h
  refine⟨?_,?_,rfl,rfl,?_,fun hb =>?_⟩
 all_goals first
  | contradiction
  | assumption
  | rfl
  | exact wX _ _ _
  | exact s9 _ _ _ _
  | exact s1 hb h2
  | exact s1 hb (xP _)
  | exact c1 h0 (xP _)
  | exact l1 _
  | (dsimp only;split <;> assumption)
  | exact⟨by dsimp only;omega,by first | assumption | exact l1 _ | exact xP _,by first | assumption | exact l1 _,by first | assumption | exact l1 _,by first | assumption | exact l1 _,rfl⟩
theorem RU(hw:MV s l ws)(hq:q.w4 3)(h0:((nN s*nW l:Nat):Int)≤q.base)(hk:q.ok=false)(h:fv aT q ws=(q',ws',b)):MV s l ws'∧ws'.length=ws.length∧q'.base=q.base∧q'.cap=q.cap∧bf q'.n∧(b=false→q'.w4 3∧q'.ok=false):=by
 obtain⟨base,cap,n,ok,ended,at_,bb,t,x⟩:=q
 obtain⟨h1,h2,h3,h4,h5,h6⟩:=hq
 have l1:=fun a=>Dk hw.a64 a
 have c1:=fun {a} {o} {x} (ha:((nN s*nW l:Nat):Int)≤a) (hx:bf x)=>hw.DO (o:=o) ha hx
 dsimp only at *
 subst h6;subst hk
 unfold fv at h
 dsimp only at h
 repeat' split at h
 all_goals
  cases h
  refine⟨?_,?_,rfl,rfl,?_,fun hb =>?_⟩
 all_goals first
  | contradiction
  | assumption
  | rfl
  | exact wX _ _ _
  | exact s9 _ _ _ _
  | exact c1 h0 (xP _)
  | exact l1 _
  | exact⟨⟨by dsimp only;omega,by first | assumption | exact l1 _,by first | assumption | exact l1 _,by first | assumption | exact l1 _,by first | assumption | exact l1 _,rfl⟩,rfl⟩
theorem SZ(hw:MV s l ws)(hq:q.w4 3)(hb:((nN s*nW l:Nat):Int)≤eJ q.base)(hp:∀i,((nN s*nW l:Nat):Int)≤jL q.base q.cap i)(hk:q.ok=false)(h:fg aT q ws=(q',ws',b)):MV s l ws'∧ws'.length=ws.length∧q'.base=q.base∧q'.cap=q.cap∧bf q'.n∧(b=false→q'.w4 3∧q'.ok=false):=by
 obtain⟨base,cap,n,ok,ended,at_,bb,t,x⟩:=q
 obtain⟨h1,h2,h3,h4,h5,h6⟩:=hq
 have l1:=fun a=>Dk hw.a64 a
 have s1:=fun {a} {x} (ha:((nN s*nW l:Nat):Int)≤a) (hx:bf x)=>hw.xl ha hx
 dsimp only at *
 subst h6;subst hk
 unfold fg at h
 dsimp only at h
 repeat' split at h
 all_goals
  cases h
  refine⟨?_,?_,rfl,rfl,?_,fun hb =>?_⟩
 all_goals first
  | contradiction
  | assumption
  | rfl
  | exact wX _ _ _
  | exact s9 _ _ _ _
  | exact s1 hb (xP _)
  | exact s1 (hp _) h4
  | exact l1 _
  | exact⟨⟨by dsimp only;omega,by first | assumption | exact l1 _,by first | assumption | exact l1 _,by first | assumption | exact l1 _,by first | assumption | exact l1 _,rfl⟩,rfl⟩
end
theorem O8{y:List Int}{z:Int}{i:Nat}:wd (y++[z]) i=if i<y.length then wd y i else if i=y.length then z else 0:=by
 unfold wd
 rw[List.getElem?_append]
 by_cases h:i<y.length
 ·rw[if_pos h,if_pos h]
 ·rw[if_neg h,if_neg h]
  by_cases h2:i=y.length
  ·subst h2;simp
  ·rw[if_neg h2,List.getElem?_eq_none (by show 1≤_;omega)];rfl
theorem SV{s:Sy}{l:Lay}{ws ws':List Int}{y y':List Int}{b:Bool}(hs:LS s l)(hw:MV s l ws){v:Nat}(hv:v<nN s)(hy:y.length<nW l∨(nW l=0∧y=[]))(hk:∀i,i<y.length→eG s.what s.w i (wd y i))(h:kx aT l (aK l v) y ws=(y',ws',b)):ws'=ws∧(∀i,i<y'.length→eG s.what s.w i (wd y' i))∧(b=false→y'.length<nW l)∧(b=true→dC s.what s.w y'):=by
 have E9:=hs.ww
 unfold kx at h
 split at h
 ·rename_i ab
  have ab:y.length<nW l:=ab
  cases h
  have e:∀i,i<(y++[(aT.ld ws (wr (aK l v+(y.length:Nat)))).1]).length→eG s.what s.w i (wd (y++[(aT.ld ws (wr (aK l v+(y.length:Nat)))).1]) i):=fun i hi=>by
   rw[List.length_append]at hi
   have hi:i<y.length+1:=hi
   rw[O8]
   by_cases h1:i<y.length
   ·rw[if_pos h1];exact hk i h1
   ·obtain rfl:i=y.length:=by omega
    rw[if_neg h1,if_pos rfl]
    show eG _ _ _ (cC ws _)
    rw[hs.AK hv ab]
    exact hw.load hv ab
  refine⟨rfl,e,fun hb =>?_,fun hb =>?_⟩
  ·have hb:¬y.length+1=nW l:=of_decide_eq_false hb
   rw[List.length_append];show y.length+1<_;omega
  ·have hb:y.length+1=nW l:=of_decide_eq_true hb
   refine (Cx hs.iT.rr).2 ⟨?_,e⟩
   rw[← hs.words,E9.1,List.length_append];show ((y.length+1:Nat):Int)=_;omega
 ·rename_i ab
  obtain⟨h1,h2⟩:=Prod.mk.inj h
  obtain⟨h2,h3⟩:=Prod.mk.inj h2
  subst h1;subst h2;subst h3
  have h0:nW l=0∧y=[]:=by
   rcases hy with h | h
   ·exact absurd h ab
   ·exact h
  refine⟨rfl,hk,fun hb=>(by cases hb),fun _ =>?_⟩
  refine (Cx hs.iT.rr).2 ⟨?_,hk⟩
  rw[← hs.words,E9.1,h0.1,h0.2];rfl
theorem Ta{s:Sy}{l:Lay}{ws ws':List Int}{j j':Jn}{b:Bool}(hs:LS s l)(hw:MV s l ws){u:Nat}(hu:u<nN s)(Ea:j.base=aK l u)(aaZ:j.what=l.what)(aa1:j.words=l.words)(ha:dC s.what s.w j.a)(jB:j.ended=false)(cW:j.at_≤nW l)(hx:bf j.x)(hl:j.ek=true→j.at_<nW l∧eG s.what s.w j.at_ j.x)(h:fV aT j ws=(j',ws',b)):
  MV s l ws'∧ws'.length=ws.length∧(j'.base=j.base∧j'.what=j.what∧j'.words=j.words∧j'.a=j.a)∧(b=false→j'.ended=false∧j'.at_<nW l∧bf j'.x∧(j'.ek=true→eG s.what s.w j'.at_ j'.x)):=by
 obtain⟨base,what,words,a,changed,ended,tries,at_,ek,x⟩:=j
 dsimp only at *
 subst Ea;subst jB;subst aaZ;subst aa1
 have E9:=hs.ww
 have qg:∀i,i<nW l→eG s.what s.w i (wd a i):=fun i hi=>by
  have:=(Cx hs.iT.rr).1 ha
  refine this.2 i ?_
  have h2:=this.1
  rw[← hs.words,E9.1]at h2
  omega
 unfold fV at h
 dsimp only at h
 split at h
 ·contradiction
 split at h
 ·cases h
  exact⟨hw,rfl,⟨rfl,rfl,rfl,rfl⟩,fun hb=>by cases hb⟩
 rename_i I6
 have ab:at_<nW l:=by have:¬at_=nW l:=I6;omega
 have hA:=hs.AK hu ab
 have yI:eG s.what s.w at_ (cC ws (wr (aK l u+(at_:Nat)))):=by rw[hA];exact hw.load hu ab
 rw[hs.what]at h
 split at h
 ·rename_i acd
  have fR:=(hl acd).2
  have Fj:=yZ hs.sh fR (qg at_ ab)
  have hM:∀o,MV s l (gw ws (wr (aK l u+(at_:Nat))) o (cu s.what x (wd a at_))):=fun o=>by rw[hA];exact hw.Xe ab Fj
  split at h
  ·unfold fE at h
   dsimp only at h
   split at h
   ·rename_i hn
    cases h
    exact⟨hM _,s9 _ _ _ _,⟨rfl,hs.what.symm,rfl,rfl⟩,fun _=>⟨rfl,hn,hx,fun hc=>by cases hc⟩⟩
   ·cases h
    exact⟨hM _,s9 _ _ _ _,⟨rfl,hs.what.symm,rfl,rfl⟩,fun hb=>by cases hb⟩
  ·cases h
   exact⟨hM _,s9 _ _ _ _,⟨rfl,hs.what.symm,rfl,rfl⟩,fun _=>⟨rfl,ab,hx,fun hc=>by cases hc⟩⟩
 ·split at h
  ·unfold fE at h
   dsimp only at h
   split at h
   ·rename_i hn
    cases h
    exact⟨hw,rfl,⟨rfl,hs.what.symm,rfl,rfl⟩,fun _=>⟨rfl,hn,yI.1,fun hc=>absurd hc (by assumption)⟩⟩
   ·cases h
    exact⟨hw,rfl,⟨rfl,hs.what.symm,rfl,rfl⟩,fun hb=>by cases hb⟩
  ·cases h
   exact⟨hw,rfl,⟨rfl,hs.what.symm,rfl,rfl⟩,fun _=>⟨rfl,ab,yI.1,fun _=>yI⟩⟩
def Q3(s:Sy)(does:Int):Nw→Prop
 | .none=>False
 | .pop q=>bf q.n
 | .bE q=>bf q.n
 | .read y=>dC s.what s.w y
 | .join _=>does=5
 | .take _=>does=6
 | .push _=>does=7
 | _=>True
theorem HC{nx:List Int}{n:Int}(h:∀u∈nx,0≤u∧u<n)(h0:0<nx.length):∃u:Nat,nx.headD 0=u∧(u:Int)<n:=by
 cases nx with
 | nil=>cases h0
 | cons u r =>
  have:=h u (List.mem_cons_self ..)
  exact⟨u.toNat,by show u=_;omega,by omega⟩
theorem Uw{s:Sy}{l:Lay}{ws ws':List Int}{who does node:Int}{nx out:List Int}{n n':Nw}{b:Bool}(hs:LS s l)(hw:MV s l ws)(pT:0≤who∧who<l.k)(nP:0≤node∧node<s.n)(bY:∀u∈nx,0≤u∧u<s.n)(hh:does=5∨does=6∨does=7→0<nx.length)(ho:does=5∨does=6∨does=7→dC s.what s.w out)
  (hb:v8 s l who does node nx out n) (h:eU aT l node n ws=(n',ws',b)):MV s l ws'∧ws'.length=ws.length∧(b=false→v8 s l who does node nx out n'∧kept l n')∧(b=true→Q3 s does n'):=by
 have dm:=hs.k2
 have hd:∀k:Nat,(k:Int)<l.k→((nN s*nW l:Nat):Int)≤fe l k∧((nN s*nW l:Nat):Int)≤eJ (fe l k)∧∀i,((nN s*nW l:Nat):Int)≤jL (fe l k) (du l) i:=fun k hk=>hs.abh (by omega)
 obtain⟨me,rfl⟩:=Int.eq_ofNat_of_zero_le pT.1
 obtain⟨v,rfl⟩:=Int.eq_ofNat_of_zero_le nP.1
 have hv:v<nN s:=by have:=hs.nn;omega
 have Fo:=hd me pT.2
 cases n with
 | none=>exact hb.elim
 | pop q =>
  obtain⟨q',a',b',ak⟩:∃q' a' b',ei aT q ws=(q',a',b'):=⟨_,_,_,rfl⟩
  rw[sf ak]at h
  cases h
  obtain⟨h1,h2,h3,h4⟩:=hb
  obtain⟨k1,k2,k3,k4,k5,k6⟩:=Ul hw h2 (by rw[h3];exact Fo.2.1) (by rw[h3];exact Fo.1) ak
  exact⟨k1,k2,fun hb=>⟨⟨h1,k6 hb,k3.trans h3,k4.trans h4⟩,trivial⟩,fun _=>k5⟩
 | bE q =>
  obtain⟨q',a',b',ak⟩:∃q' a' b',fv aT q ws=(q',a',b'):=⟨_,_,_,rfl⟩
  rw[rT ak]at h
  cases h
  obtain⟨h1,h2,⟨k,hk,h3⟩,h4,h5⟩:=hb
  obtain⟨k1,k2,k3,k4,k5,k6⟩:=RU hw h2 (by rw[h3];exact (hd k hk).1) h5 ak
  exact⟨k1,k2,fun hb=>⟨⟨h1,(k6 hb).1,⟨k,hk,k3.trans h3⟩,k4.trans h4,(k6 hb).2⟩,trivial⟩,fun _=>k5⟩
 | quiet t =>
  obtain⟨h1,rfl⟩:=hb
  cases h
  exact⟨hw,rfl,fun hb=>(by cases hb),fun _=>trivial⟩
 | clear t =>
  obtain⟨h1,rfl⟩:=hb
  cases h
  refine⟨?_,?_,fun hb=>(by cases hb),fun _=>trivial⟩
  ·show MV s l (if 0≤(v:Int) then fN ws (wr (bR l+(v:Nat))) 0 else ws)
   rw[if_pos (by omega),hs.xY hv]
   exact hw.xl (by omega) (by unfold bf;omega)
  ·show (if 0≤(v:Int) then fN ws (wr (bR l+(v:Nat))) 0 else ws).length=_
   rw[if_pos (by omega)];exact wX _ _ _
 | read y =>
  obtain⟨y',a',b',ak⟩:∃y' a' b',kx aT l (aK l v) y ws=(y',a',b'):=⟨_,_,_,rfl⟩
  rw[vt ak]at h
  cases h
  obtain⟨h1,h2,h3⟩:=hb
  obtain⟨rfl,k2,k3,k4⟩:=SV hs hw hv h2 h3 ak
  exact⟨hw,rfl,fun hb=>⟨⟨h1,.inl (k3 hb),k2⟩,k3 hb⟩,fun hb=>k4 hb⟩
 | join j =>
  obtain⟨j',a',b',ak⟩:∃j' a' b',fV aT j ws=(j',a',b'):=⟨_,_,_,rfl⟩
  rw[r7 ak]at h
  cases h
  obtain⟨h1,⟨h2,h3,h4,h5⟩,h6,h7,h8,h9⟩:=hb
  obtain⟨u,hu,ef⟩:=HC bY (hh (.inl h1))
  obtain⟨k1,k2,⟨k3,k4,k5,k6⟩,k7⟩:=Ta hs hw (u:=u) (by have:=hs.nn;omega) (by rw[h2,hu]) h3 h4 (by rw[h5];exact ho (.inl h1)) h6 h7 h8 h9 ak
  refine⟨k1,k2,fun hb =>?_,fun _=>h1⟩
  obtain⟨m1,m2,m3,m4⟩:=k7 hb
  exact⟨⟨h1,⟨k3.trans h2,k4.trans h3,k5.trans h4,k6.trans h5⟩,m1,Nat.le_of_lt m2,m3,fun hc=>⟨m2,m4 hc⟩⟩,m2⟩
 | take t =>
  obtain⟨h1,im,rfl⟩:=hb
  obtain⟨u,hu,ef⟩:=HC bY (hh (.inr (.inl h1)))
  have hu2:u<nN s:=by have:=hs.nn;omega
  rw[hu]at h
  have fB:((nN s*nW l:Nat):Int)≤wr (bR l+(u:Nat)):=by rw[hs.xY hu2];omega
  have JW:((nN s*nW l:Nat):Int)≤bN l:=by rw[hs.count];omega
  cases im with
  | true =>
   cases h
   exact⟨hw.PK JW,KF _ _ _,fun hb=>(by cases hb),fun _=>h1⟩
  | false =>
   obtain⟨t',a',b',ak⟩:∃t' a' b',jr aT ⟨bR l,bN l,(u:Nat),false,false,false⟩ ws=(t',a',b'):=⟨_,_,_,rfl⟩
   rw[rZ ak]at h
   cases h
   unfold jr at ak
   dsimp only at ak
   rw[if_neg (by decide),if_neg (by decide),if_pos (by omega)]at ak
   split at ak
   ·cases ak
    exact⟨hw.DO fB (by unfold bf;omega),s9 _ _ _ _,fun _=>⟨⟨h1,true,by rw[hu]⟩,rfl⟩,fun hb=>(by cases hb)⟩
   ·cases ak
    exact⟨hw.DO fB (by unfold bf;omega),s9 _ _ _ _,fun hb=>(by cases hb),fun _=>h1⟩
 | push q =>
  obtain⟨q',a',b',ak⟩:∃q' a' b',fg aT q ws=(q',a',b'):=⟨_,_,_,rfl⟩
  rw[zX ak]at h
  cases h
  obtain⟨h1,h2,h3,h4,h5⟩:=hb
  obtain⟨k1,k2,k3,k4,k5,k6⟩:=SZ hw h2 (by rw[h3];exact Fo.2.1) (by rw[h3,h4];exact Fo.2.2) h5 ak
  exact⟨k1,k2,fun hb=>⟨⟨h1,(k6 hb).1,k3.trans h3,k4.trans h4,(k6 hb).2⟩,trivial⟩,fun _=>h1⟩
 | cX t =>
  obtain⟨h1,rfl⟩:=hb
  cases h
  have JW:((nN s*nW l:Nat):Int)≤bN l:=by rw[hs.count];omega
  exact⟨hw.PK JW,KF _ _ _,fun hb=>(by cases hb),fun _=>trivial⟩
theorem xj:bf 0:=by unfold bf;omega
theorem H4(base cap n:Int)(m:Nat)(h:bf n):(rM base cap n).w4 m:=⟨Nat.zero_le _,xj,xj,h,xj,rfl⟩
theorem XW{d n:Int}(hn:0<n): -n<d.tmod n∧d.tmod n<n:=⟨by have:=Int.tmod_lt_of_pos (-d) hn;rw[Int.neg_tmod]at this;omega,Int.tmod_lt_of_pos _ hn⟩
theorem LZ{s:Sy}{l:Lay}(hs:LS s l){who:Int}(pT:0≤who∧who<l.k)(h2:2≤l.k)(d:Int):∃v:Nat,zO l who d=v∧(v:Int)<l.k:=by
 have dm:=hs.k2
 have hnk:nK l=l.k-1:=fu (by omega) (by omega)
 have h1:=XW (d:=d) (n:=l.k-1) (by omega)
 unfold zO
 rw[hnk]
 generalize d.tmod (l.k-1)=a at h1
 rw[fu (z:=a+(l.k-1)) (by omega) (by omega),fu (z:=who+1) (by omega) (by omega)]
 have h3:0≤(a+(l.k-1)).tmod (l.k-1):=Int.tmod_nonneg _ (by omega)
 have h4:=Int.tmod_lt_of_pos (a+(l.k-1)) (show 0<l.k-1 by omega)
 generalize (a+(l.k-1)).tmod (l.k-1)=c at h3 h4
 rw[fu (by omega) (by omega)]
 have h5:0≤(who+1+c).tmod l.k:=Int.tmod_nonneg _ (by omega)
 have h6:=Int.tmod_lt_of_pos (who+1+c) (show 0<l.k by omega)
 exact⟨_,(Int.toNat_of_nonneg h5).symm,by omega⟩
theorem OD{s:Sy}{l:Lay}{who:Int}{x:WS}{d:Int}(hs:LS s l)(pT:0≤who∧who<l.k)(h:WV s l who x):v8 s l who x.does x.node x.nx x.out (iO l who x d):=by
 have hd:=h.does
 have hw:=hs.ww
 rcases h.now with h0 | h0
 ·unfold iO
  rw[h0]
  show v8 s l who x.does x.node x.nx x.out (gn l who x.does x.node x.nx x.out d)
  unfold gn
  repeat' split
  ·exact⟨by assumption,H4 _ _ _ _ (by unfold bf;omega),rfl,rfl⟩
  ·rename_i h1
   obtain⟨v,hv,hvk⟩:=LZ hs pT (h.yw h1) d
   exact⟨h1,H4 _ _ _ _ (by unfold bf;omega),⟨v,hvk,by rw[← hv];rfl⟩,rfl,rfl⟩
  ·exact⟨by assumption,rfl⟩
  ·exact⟨by assumption,rfl⟩
  ·refine⟨by assumption,?_,fun i hi=>absurd hi (Nat.not_lt_zero _)⟩
   rcases Nat.eq_zero_or_pos (nW l) with h | h
   ·exact .inr ⟨h,rfl⟩
   ·exact .inl h
  ·exact⟨by assumption,⟨rfl,rfl,rfl,rfl⟩,rfl,Nat.zero_le _,xj,fun hc=>by cases hc⟩
  ·exact⟨by assumption,false,rfl⟩
  ·exact⟨by assumption,H4 _ _ _ _ (xP _),rfl,rfl,rfl⟩
  ·exact⟨by omega,rfl⟩
 ·unfold iO
  split
  ·rename_i hn;rw[hn]at h0;exact h0.1.elim
  ·exact h0.1
theorem Pw{s:Sy}{l:Lay}(hs:LS s l){n:Int}(h:bf n):0≤mH l n∧mH l n<s.n:=by
 have hn:=hs.nn
 have e:wu l.n=s.n:=by
  show IntKind.u64.wrap l.n=_
  rw[IntKind.wrap_u64,hs.n];omega
 unfold mH
 rw[e]
 split
 ·omega
 ·rw[fu h.1 (by omega)]
  exact⟨h.1,by omega⟩
theorem nJ{s:Sy}{l:Lay}{who:Int}{x:WS}(h0:x.now=.none)(h1:0≤x.does∧x.does≤8)(h2:0≤x.node∧x.node<s.n)(h3:∀u∈x.nx,0≤u∧u<s.n)(h4:x.does=5∨x.does=6∨x.does=7→0<x.nx.length∧dC s.what s.w x.out)(h5:x.does=1→2≤l.k):WV s l who x:=
 ⟨h1,h2,h3,fun h=>(h4 h).1,fun h=>(h4 h).2,h5,.inl h0⟩
theorem aac{s:Sy}{l:Lay}{who:Int}{x:WS}{n:Nw}(hs:LS s l)(h:WV s l who x)(he:Q3 s x.does n):WV s l who (dv s l x n):=by
 have g:=fun n=>Tf l n
 have f:=Tg x.nx
 have r:=Uh s x.node
 have no:=Sa l
 have qu:=SY l
 have Fk:∀u∈x.nx.tail,0≤u∧u<s.n:=fun u hu=>h.nx u (List.mem_of_mem_tail hu)
 cases n with
 | none=>exact he.elim
 | pop q =>
  have g:=g q.n
  by_cases hq:q.ok=true
  ·rw[show dv s l x (.pop q)=⟨x.ev,x.jo,x.en,oQ l q.n,.none,mH l q.n,true,x.nx,x.out⟩ from if_pos hq]
   exact nJ rfl (by dsimp only;omega) (Pw hs he) h.nx (fun h=>by dsimp only at h;omega) (fun h=>by dsimp only at h;omega)
  ·rw[show dv s l x (.pop q)=⟨x.ev,x.jo,x.en,oN l,.none,x.node,x.has,x.nx,x.out⟩ from if_neg hq]
   exact nJ rfl (by dsimp only;omega) h.node h.nx (fun h=>by dsimp only at h;omega) (fun h=>by dsimp only at h;omega)
 | bE q =>
  have g:=g q.n
  by_cases hq:q.ok=true
  ·rw[show dv s l x (.bE q)=⟨x.ev,x.jo,x.en,oQ l q.n,.none,mH l q.n,true,x.nx,x.out⟩ from if_pos hq]
   exact nJ rfl (by dsimp only;omega) (Pw hs he) h.nx (fun h=>by dsimp only at h;omega) (fun h=>by dsimp only at h;omega)
  ·rw[show dv s l x (.bE q)=⟨x.ev,x.jo,x.en,2,.none,x.node,x.has,x.nx,x.out⟩ from if_neg hq]
   exact nJ rfl (by dsimp only;omega) h.node h.nx (fun h=>by dsimp only at h;omega) (fun h=>by dsimp only at h;omega)
 | quiet q=>exact nJ rfl (by dsimp only[dv];omega) h.node h.nx (fun h=>by dsimp only[dv]at h;omega) (fun h=>by dsimp only[dv]at h;omega)
 | clear q=>exact nJ rfl (by dsimp only[dv];omega) h.node h.nx (fun h=>by dsimp only[dv]at h;omega) (fun h=>by dsimp only[dv]at h;omega)
 | read y =>
  obtain⟨v,hv⟩:=Int.eq_ofNat_of_zero_le h.node.1
  have cm:=h.node.2
  have hE:mY s x.node y=0:=Nd ((CF (GF hs.iT) h.node).symm) he.v
  have hV:dC s.what s.w (qd (mY s x.node y) (iD s y x.node.toNat)):=by
   rw[hE,show qd 0 (iD s y x.node.toNat)=iD s y x.node.toNat from rfl]
   have:=Hs hs.fit hs.iT he.ck he.v (v:=x.node.toNat) (by omega)
   exact⟨this.1,this.2⟩
  exact nJ rfl (by dsimp only[dv];omega) h.node (fun u hu=>(j8.1 hu).1) (fun h=>⟨by dsimp only[dv]at h ⊢;omega,hV⟩) (fun h=>by dsimp only[dv]at h;omega)
 | join q =>
  have hh:=h.head (.inl he)
  have ho:=h.out (.inl he)
  by_cases hq:q.changed=true
  ·rw[show dv s l x (.join q)=⟨x.ev,wr (x.jo+1),x.en,6,.none,x.node,x.has,x.nx,x.out⟩ from if_pos hq]
   exact nJ rfl (by dsimp only;omega) h.node h.nx (fun _=>⟨hh,ho⟩) (fun h=>by dsimp only at h;omega)
  ·rw[show dv s l x (.join q)=⟨x.ev,x.jo,x.en,iP x.nx,.none,x.node,x.has,x.nx.tail,x.out⟩ from if_neg hq]
   exact nJ rfl (by dsimp only;omega) h.node Fk (fun h=>⟨by dsimp only at h ⊢;omega,ho⟩) (fun h=>by dsimp only at h;omega)
 | take q =>
  have hh:=h.head (.inr (.inl he))
  have ho:=h.out (.inr (.inl he))
  by_cases hq:q.new=true
  ·rw[show dv s l x (.take q)=⟨x.ev,x.jo,x.en,7,.none,x.node,x.has,x.nx,x.out⟩ from if_pos hq]
   exact nJ rfl (by dsimp only;omega) h.node h.nx (fun _=>⟨hh,ho⟩) (fun h=>by dsimp only at h;omega)
  ·rw[show dv s l x (.take q)=⟨x.ev,x.jo,x.en,iP x.nx,.none,x.node,x.has,x.nx.tail,x.out⟩ from if_neg hq]
   exact nJ rfl (by dsimp only;omega) h.node Fk (fun h=>⟨by dsimp only at h ⊢;omega,ho⟩) (fun h=>by dsimp only at h;omega)
 | push q =>
  have ho:=h.out (.inr (.inr he))
  exact nJ rfl (by dsimp only[dv];omega) h.node Fk (fun h=>⟨by dsimp only[dv]at h ⊢;omega,ho⟩) (fun h=>by dsimp only[dv]at h;omega)
 | cX q=>exact nJ rfl (by dsimp only[dv];omega) h.node h.nx (fun h=>by dsimp only[dv]at h;omega) (fun h=>by dsimp only[dv]at h;omega)
theorem XP{s:Sy}{l:Lay}{who:Int}{x:WS}{d:Int}{ws:List Int}(hs:LS s l)(pT:0≤who∧who<l.k)(hw:MV s l ws)(h:WV s l who x):MV s l (cz aT s l who x d ws).2.1∧(cz aT s l who x d ws).2.1.length=ws.length∧WV s l who (cz aT s l who x d ws).1:=by
 obtain⟨n',ws',b,ak⟩:∃n' ws' b,eU aT l x.node (iO l who x d) ws=(n',ws',b):=⟨_,_,_,rfl⟩
 obtain⟨k1,k2,k3,k4⟩:=Uw hs hw pT h.node h.nx h.head h.out (OD hs pT h (d:=d)) ak
 unfold cz
 rw[ak]
 dsimp only
 split
 ·exact⟨hw,rfl,h⟩
 ·split
  ·rename_i hb
   exact⟨k1,k2,aac hs h (k4 hb)⟩
  ·rename_i hb
   exact⟨k1,k2,h.does,h.node,h.nx,h.head,h.out,h.yw,.inr (k3 (by simpa using hb))⟩
end Go.Proofs.YtnpidbjdilnhlaaGreat
