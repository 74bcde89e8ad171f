import Derived.Test.YtnikdflhefijbaaGreatRows
import Derived.Test.YtnikdflhefijbaaGreatBp6
namespace Go.Proofs.YtnikdflhefijbaaGreat
abbrev aw:AV:=.int .i64 0
abbrev az:Option TI:=some ⟨.func,1,8,[.iH]⟩
abbrev iK(n:Nat):Option TI:=some ⟨.ptr n,1,8,[.cN]⟩
abbrev oy(n:Nat):Option TI:=some ⟨.slice n,1,24,[.aj]⟩
abbrev Ir:Option TI:=some ⟨.int .i64,1,8,[.int .i64 0]⟩
def tbl:List (List (Option TI)):=[
 [none,az,Ir,Ir,some ⟨.bool,1,1,[.bool false]⟩,some ⟨.int .u8,1,1,[.int .u8 0]⟩,some ⟨.int .u8,1,1,[.int .u8 0]⟩,some ⟨.aV [(0,2),(1,3),(2,4),(3,6)],4,24,[aw,aw,.bool false,.int .u8 0]⟩,some ⟨.aV [(0,2),(1,3),(2,4),(3,6)],4,24,[aw,aw,.bool false,.int .u8 0]⟩,some ⟨.str,1,16,[.str ByteArray.empty]⟩,some ⟨.str,1,16,[.str ByteArray.empty]⟩,some ⟨.str,1,16,[.str ByteArray.empty]⟩,some ⟨.int .u64,1,8,[.int .u64 0]⟩,some ⟨.aV [(0,9),(1,12)],2,24,[.str ByteArray.empty,.int .u64 0]⟩,some ⟨.aV [(0,9),(1,12)],2,24,[.str ByteArray.empty,.int .u64 0]⟩,iK 386],[iK 389,iK 397,some ⟨.aV [(0,17)],1,8,[.cN]⟩,some ⟨.aV [(0,17)],1,8,[.cN]⟩,some ⟨.iface,1,16,[.nilif]⟩,some ⟨.int .i32,1,4,[.int .i32 0]⟩,oy 227,oy 3,oy 56,oy 93,some ⟨.aV [(0,3),(1,3),(2,3),(3,22),(4,23),(5,24),(6,25)],7,120,[aw,aw,aw,.aj,.aj,.aj,.aj]⟩,some ⟨.aV [(0,3),(1,3),(2,3),(3,22),(4,23),(5,24),(6,25)],7,120,[aw,aw,aw,.aj,.aj,.aj,.aj]⟩,oy 121,az,az,oy 24],[some ⟨.aV [(0,31),(1,3),(2,3),(3,3)],4,48,[.aj,aw,aw,aw]⟩,some ⟨.aV [(0,31),(1,3),(2,3),(3,3)],4,48,[.aj,aw,aw,aw]⟩,Ir,none,az,oy 4,some ⟨.aV [(0,31),(1,37),(2,3),(3,3),(4,3),(5,3),(6,23),(7,23),(8,37)],9,152,[.aj,.aj,aw,aw,aw,aw,.aj,.aj,.aj]⟩,some ⟨.aV [(0,31),(1,37),(2,3),(3,3),(4,3),(5,3),(6,23),(7,23),(8,37)],9,152,[.aj,.aj,aw,aw,aw,aw,.aj,.aj,.aj]⟩,none,az,some ⟨.aV [(0,3),(1,3),(2,3),(3,3)],4,32,[aw,aw,aw,aw]⟩,some ⟨.aV [(0,3),(1,3),(2,3),(3,3)],4,32,[aw,aw,aw,aw]⟩,none,az,iK 58,oy 123],[none,az,none,az,none,az,az,az,some ⟨.int .u64,1,8,[.int .u64 0]⟩,some ⟨.aV [(0,24)],1,24,[.aj]⟩,some ⟨.aV [(0,24)],1,24,[.aj]⟩,az,az,az,some ⟨.int .u16,1,2,[.int .u16 0]⟩,az],[az,az,az,az,az,az,az,none,az,az,az,none,az,oy 84,none,az],[none,az,az,some ⟨.aV [(0,3),(1,3),(2,56),(3,56),(4,56),(5,4)],6,48,[aw,aw,.int .u64 0,.int .u64 0,.int .u64 0,.bool false]⟩,some ⟨.aV [(0,3),(1,3),(2,56),(3,56),(4,56),(5,4)],6,48,[aw,aw,.int .u64 0,.int .u64 0,.int .u64 0,.bool false]⟩,some ⟨.aV [(0,3),(1,3),(2,3),(3,3)],4,32,[aw,aw,aw,aw]⟩,none,az,az,az,az,oy 233,some ⟨.aV [(0,24),(1,24),(2,91)],3,72,[.aj,.aj,.aj]⟩,some ⟨.aV [(0,24),(1,24),(2,91)],3,72,[.aj,.aj,.aj]⟩,iK 217,oy 168],[some ⟨.aV [(0,23),(1,37),(2,3)],3,56,[.aj,.aj,aw]⟩,some ⟨.aV [(0,23),(1,37),(2,3)],3,56,[.aj,.aj,aw]⟩,some ⟨.aV [(0,94),(1,85),(5,95),(6,97)],9,120,[.cN,aw,aw,aw,aw,.aj,.aj,.aj,aw]⟩,some ⟨.aV [(0,94),(1,85),(5,95),(6,97)],9,120,[.cN,aw,aw,aw,aw,.aj,.aj,.aj,aw]⟩,none,az,az,az,az,some ⟨.aV [(0,3),(1,3)],2,16,[aw,aw]⟩,some ⟨.aV [(0,3),(1,3)],2,16,[aw,aw]⟩,az,az,az,az,az],[az,some ⟨.aV [(0,3),(1,3)],2,16,[aw,aw]⟩,some ⟨.aV [(0,3),(1,3)],2,16,[aw,aw]⟩,az,az,az,az,az,some ⟨.aV [(0,3),(1,3)],2,16,[aw,aw]⟩,some ⟨.aV [(0,3),(1,3)],2,16,[aw,aw]⟩,az,iK 129,az,iK 238,iK 245,iK 242],[some ⟨.aV [(0,27),(7,43),(11,3),(12,3),(13,3),(14,4),(15,23),(16,24),(17,125),(18,126),(19,127),(20,24),(21,3),(22,3),(23,4)],24,304,[aw,aw,aw,.aj,.aj,.aj,.aj,aw,aw,aw,aw,aw,aw,aw,.bool false,.aj,.aj,.cN,.cN,.cN,.aj,aw,aw,.bool false]⟩,some ⟨.aV [(0,27),(7,43),(11,3),(12,3),(13,3),(14,4),(15,23),(16,24),(17,125),(18,126),(19,127),(20,24),(21,3),(22,3),(23,4)],24,304,[aw,aw,aw,.aj,.aj,.aj,.aj,aw,aw,aw,aw,aw,aw,aw,.bool false,.aj,.aj,.cN,.cN,.cN,.aj,aw,aw,.bool false]⟩,az,az,az,none,az,az,az,az,az,az,az,iK 165,some ⟨.aV [(0,141)],1,8,[.cN]⟩,some ⟨.aV [(0,141)],1,8,[.cN]⟩],[none,az,az,az,az,az,oy 23,az,az,az,az,az,az,az,az,az],[some ⟨.iface,1,16,[.nilif]⟩,some ⟨.iface,1,16,[.nilif]⟩,some ⟨.aV [(0,161)],1,16,[.nilif]⟩,some ⟨.aV [(0,161)],1,16,[.nilif]⟩,some ⟨.aV [(0,163),(1,77)],2,40,[.nilif,.aj]⟩,some ⟨.aV [(0,163),(1,77)],2,40,[.nilif,.aj]⟩,az,az,iK 186,none,az,az,az,oy 176,az,some ⟨.iface,1,16,[.nilif]⟩],[some ⟨.iface,1,16,[.nilif]⟩,az,az,some ⟨.aV [(0,3),(1,3),(2,3)],3,24,[aw,aw,aw]⟩,some ⟨.aV [(0,3),(1,3),(2,3)],3,24,[aw,aw,aw]⟩,az,az,az,some ⟨.iface,1,16,[.nilif]⟩,some ⟨.aV [(0,3),(1,3),(2,4),(3,27),(10,85),(14,3),(15,3),(16,184),(17,3),(18,4),(19,23),(20,24),(21,4)],22,280,[aw,aw,.bool false,aw,aw,aw,.aj,.aj,.aj,.aj,aw,aw,aw,aw,aw,aw,.nilif,aw,.bool false,.aj,.aj,.bool false]⟩,some ⟨.aV [(0,3),(1,3),(2,4),(3,27),(10,85),(14,3),(15,3),(16,184),(17,3),(18,4),(19,23),(20,24),(21,4)],22,280,[aw,aw,.bool false,aw,aw,aw,.aj,.aj,.aj,.aj,aw,aw,aw,aw,aw,aw,.nilif,aw,.bool false,.aj,.aj,.bool false]⟩,az,az,az,az,az],[az,none,az,some ⟨.aV [(0,3),(1,3),(2,56),(3,56)],4,32,[aw,aw,.int .u64 0,.int .u64 0]⟩,some ⟨.aV [(0,3),(1,3),(2,56),(3,56)],4,32,[aw,aw,.int .u64 0,.int .u64 0]⟩,az,az,az,az,az,az,az,none,az,az,az],[az,az,az,az,az,some ⟨.aV [(0,3)],1,8,[aw]⟩,some ⟨.aV [(0,3)],1,8,[aw]⟩,az,some ⟨.aV [(0,214),(1,24)],2,32,[aw,.aj]⟩,some ⟨.aV [(0,214),(1,24)],2,32,[aw,.aj]⟩,az,none,az,az,none,az],[az,az,some ⟨.aV [(0,3),(1,3)],2,16,[aw,aw]⟩,some ⟨.aV [(0,3),(1,3)],2,16,[aw,aw]⟩,some ⟨.aV [(0,3),(1,3)],2,16,[aw,aw]⟩,some ⟨.aV [(0,3),(1,3)],2,16,[aw,aw]⟩,some ⟨.aV [(0,3),(1,229)],3,24,[aw,aw,aw]⟩,some ⟨.aV [(0,3),(1,229)],3,24,[aw,aw,aw]⟩,some ⟨.aV [(0,3),(1,3),(2,231),(5,231)],8,64,[aw,aw,aw,aw,aw,aw,aw,aw]⟩,some ⟨.aV [(0,3),(1,3),(2,231),(5,231)],8,64,[aw,aw,aw,aw,aw,aw,aw,aw]⟩,az,az,az,some ⟨.aV [(0,3),(1,3),(2,3),(3,56),(4,4),(5,4),(6,3),(7,56),(8,56),(9,56)],10,72,[aw,aw,aw,.int .u64 0,.bool false,.bool false,aw,.int .u64 0,.int .u64 0,.int .u64 0]⟩,some ⟨.aV [(0,3),(1,3),(2,3),(3,56),(4,4),(5,4),(6,3),(7,56),(8,56),(9,56)],10,72,[aw,aw,aw,.int .u64 0,.bool false,.bool false,aw,.int .u64 0,.int .u64 0,.int .u64 0]⟩,az],[az,some ⟨.aV [(0,3),(1,3),(2,3),(3,24),(4,3),(5,4),(6,56),(7,4),(8,4),(9,3)],10,88,[aw,aw,aw,.aj,aw,.bool false,.int .u64 0,.bool false,.bool false,aw]⟩,some ⟨.aV [(0,3),(1,3),(2,3),(3,24),(4,3),(5,4),(6,56),(7,4),(8,4),(9,3)],10,88,[aw,aw,aw,.aj,aw,.bool false,.int .u64 0,.bool false,.bool false,aw]⟩,az,some ⟨.aV [(0,3),(1,3),(2,3),(3,3),(4,3),(5,4),(6,4),(7,4),(8,3)],9,56,[aw,aw,aw,aw,aw,.bool false,.bool false,.bool false,aw]⟩,some ⟨.aV [(0,3),(1,3),(2,3),(3,3),(4,3),(5,4),(6,4),(7,4),(8,3)],9,56,[aw,aw,aw,aw,aw,.bool false,.bool false,.bool false,aw]⟩,az,none,az,az,az,az,az,some ⟨.int .u64,1,8,[.int .u64 0]⟩,none,az],[az,az,az,az,az,az,az,az,az,az,az,az,az,none,az,az],[az,az,az,az,az,az,az,az,az,az,az,az,some ⟨.int .u32,1,4,[.int .u32 0]⟩,none,az,none],[az,none,az,az,az,az,az,az,az,az,az,az,az,az,az,az],[az,az,az,Ir,none,az,az,az,none,az,az,az,az,az,az,az],[az,az,az,az,az,some ⟨.aV [(0,150),(1,23),(2,23),(3,37),(4,23),(5,3),(6,150)],7,152,[.aj,.aj,.aj,.aj,.aj,aw,.aj]⟩,some ⟨.aV [(0,150),(1,23),(2,23),(3,37),(4,23),(5,3),(6,150)],7,152,[.aj,.aj,.aj,.aj,.aj,aw,.aj]⟩,az,az,az,az,some ⟨.int .u64,1,8,[.int .u64 0]⟩,az,az,az,iK 3],[az,az,az,az,az,az,iK 326,some ⟨.aV [(0,3),(1,3)],2,16,[aw,aw]⟩,some ⟨.aV [(0,3),(1,3)],2,16,[aw,aw]⟩,az,oy 344,iK 344,az,az,az,az],[az,iK 331,az,az,az,az,oy 360,some ⟨.aV [(0,3),(1,3)],2,16,[aw,aw]⟩,some ⟨.aV [(0,3),(1,3)],2,16,[aw,aw]⟩,iK 360,az,az,az,az,none,az],[az,az,az,az,az,az,az,az,az,az,az,az,some ⟨.fR,1,16,[.fR 0 0]⟩,az,some ⟨.gk,1,8,[.gk 0]⟩,az],[az,some ⟨.aV [(0,17),(1,17),(2,17),(3,9)],4,40,[.cN,.cN,.cN,.str ByteArray.empty]⟩,some ⟨.aV [(0,17),(1,17),(2,17),(3,9)],4,40,[.cN,.cN,.cN,.str ByteArray.empty]⟩,some ⟨.arr 0 16,0,0,[]⟩,some ⟨.aV [(0,387)],0,0,[]⟩,some ⟨.aV [(0,387)],0,0,[]⟩,some ⟨.int .u8,1,1,[.int .u8 0]⟩,some ⟨.int .u8,1,1,[.int .u8 0]⟩,az,iK 5,some ⟨.int .i32,1,4,[.int .i32 0]⟩,some ⟨.int .i32,1,4,[.int .i32 0]⟩,some ⟨.aV [(0,12),(1,12),(2,284),(3,390),(4,5),(5,5),(6,391),(7,392),(8,393),(9,394),(10,395)],11,48,[.int .u64 0,.int .u64 0,.int .u32 0,.int .u8 0,.int .u8 0,.int .u8 0,.int .u8 0,.iH,.cN,.int .i32 0,.int .i32 0]⟩,some ⟨.aV [(0,12),(1,12),(2,284),(3,390),(4,5),(5,5),(6,391),(7,392),(8,393),(9,394),(10,395)],11,48,[.int .u64 0,.int .u64 0,.int .u32 0,.int .u8 0,.int .u8 0,.int .u8 0,.int .u8 0,.iH,.cN,.int .i32 0,.int .i32 0]⟩,az,iK 403],[some ⟨.aV [(0,3),(1,56),(2,56),(3,56)],4,32,[aw,.int .u64 0,.int .u64 0,.int .u64 0]⟩,some ⟨.aV [(0,3),(1,56),(2,56),(3,56)],4,32,[aw,.int .u64 0,.int .u64 0,.int .u64 0]⟩,some ⟨.aV [(0,114),(2,56),(3,4),(4,4),(5,401)],9,64,[aw,aw,.int .u64 0,.bool false,.bool false,aw,.int .u64 0,.int .u64 0,.int .u64 0]⟩,some ⟨.aV [(0,114),(2,56),(3,4),(4,4),(5,401)],9,64,[aw,aw,.int .u64 0,.bool false,.bool false,aw,.int .u64 0,.int .u64 0,.int .u64 0]⟩,iK 405,some ⟨.aV [(0,114),(2,56),(3,4),(4,4),(5,401)],9,64,[aw,aw,.int .u64 0,.bool false,.bool false,aw,.int .u64 0,.int .u64 0,.int .u64 0]⟩,iK 408,some ⟨.aV [(0,106),(2,4),(3,4)],4,24,[aw,aw,.bool false,.bool false]⟩,some ⟨.aV [(0,106),(2,4),(3,4)],4,24,[aw,aw,.bool false,.bool false]⟩,iK 411,some ⟨.aV [(0,106),(2,3),(3,4)],4,32,[aw,aw,aw,.bool false]⟩,some ⟨.aV [(0,106),(2,3),(3,4)],4,32,[aw,aw,aw,.bool false]⟩,iK 416,some ⟨.aV [(0,3),(1,4),(2,56)],3,24,[aw,.bool false,.int .u64 0]⟩,some ⟨.aV [(0,3),(1,4),(2,56)],3,24,[aw,.bool false,.int .u64 0]⟩,some ⟨.aV [(0,180),(3,24),(4,4),(5,414)],8,80,[aw,aw,aw,.aj,.bool false,aw,.bool false,.int .u64 0]⟩],[some ⟨.aV [(0,180),(3,24),(4,4),(5,414)],8,80,[aw,aw,aw,.aj,.bool false,aw,.bool false,.int .u64 0]⟩,iK 419,some ⟨.aV [(0,180),(3,24),(4,4),(5,4),(6,3),(7,414)],10,88,[aw,aw,aw,.aj,.bool false,.bool false,aw,aw,.bool false,.int .u64 0]⟩,some ⟨.aV [(0,180),(3,24),(4,4),(5,4),(6,3),(7,414)],10,88,[aw,aw,aw,.aj,.bool false,.bool false,aw,aw,.bool false,.int .u64 0]⟩,iK 424,some ⟨.aV [(0,4)],1,1,[.bool false]⟩,some ⟨.aV [(0,4)],1,1,[.bool false]⟩,some ⟨.aV [(0,106),(2,3),(3,4),(4,4),(5,422)],6,32,[aw,aw,aw,.bool false,.bool false,.bool false]⟩,some ⟨.aV [(0,106),(2,3),(3,4),(4,4),(5,422)],6,32,[aw,aw,aw,.bool false,.bool false,.bool false]⟩,iK 426,some ⟨.aV [(0,114),(2,56),(3,4),(4,4),(5,401)],9,64,[aw,aw,.int .u64 0,.bool false,.bool false,aw,.int .u64 0,.int .u64 0,.int .u64 0]⟩,iK 429,some ⟨.aV [(0,106),(2,3),(3,4)],4,32,[aw,aw,aw,.bool false]⟩,some ⟨.aV [(0,106),(2,3),(3,4)],4,32,[aw,aw,aw,.bool false]⟩,az,none]]
def tt(t:TypeId):Option TI:=match tbl[t / 16]? with | some r=>(match r[t % 16]? with | some x=>x | none=>none) | none=>none
theorem afb:VR Tryz.prog tt 432=true:=by kernel_rfl
theorem adm(t:TypeId)(h:432≤t):tt t=none:=by
 unfold tt
 rw[uS (show tbl.length≤t / 16 from (Nat.le_div_iff_mul_le (by decide)).2 h)]
theorem agu:dD Tryz.prog tt:=adl afb adm
end Go.Proofs.YtnikdflhefijbaaGreat
namespace Go.Proofs.YtnikdflhefijbaaGreat
theorem okF{f:FuncId}{fn:Func}{xs:List AV}{σ:Hp}{R:AV→Hp→Prop}(hf:Tryz.prog.funcs[f]?=some fn)(bF:funcOk fn=true)(h:vP Tryz.prog tt fn xs σ R):ACalls Tryz.prog f xs σ R:=
 aaM agu (by kernel_rfl) hf bF h
theorem aA{f:FuncId}{fn:Func}{xs:List AV}{σ:Hp}{R:AV→Hp→Prop}(hf:Tryz.prog.funcs[f]?=some fn)(h:vP Tryz.prog tt fn xs σ R)(bF:funcOk fn=true:=by kernel_rfl):ACalls Tryz.prog f xs σ R:=okF hf bF h
theorem cj{S:Type}(L:S→List (Nat×AV))(H:S→Hp)(p:S→Prop)(μ:S→Nat)(s0:S){body:Tm→Hp→(Ex→Tm→Hp→Prop)→Prop}{t:Tm}{σ:Hp}{Q:Ex→Tm→Hp→Prop}(h0:p s0∧agree t (L s0)∧σ=H s0)
  (round:∀s g,p s→body (dm g (L s)) (H s) (fun e t' σ'=>match e with | .normal=>ou L H p μ s t' σ' | e=>Q e t' σ')):mH body Q t σ:=.mk L H p μ s0 h0 round
theorem aZ{S:Type}{L:S→List (Nat×AV)}{H:S→Hp}{p:S→Prop}{μ:S→Nat}{s:S}{t':Tm}{σ':Hp}(s':S)(h1:μ s'<μ s)(h2:p s')(h3:agree t' (L s'))(h4:jg σ' (H s')):ou L H p μ s t' σ':=.mk s' h1 h2 h3 h4
def upto(Q:List Nat)(n:Nat):Nat→qV:=Nat.rec (motive:=fun _=>Nat→qV) (fun _=>.stop) (fun _ ih i=>.one i (eY i Q) (ih (i+1))) n
theorem aJ{σ σ2:Hp}(h:σ=σ2):jg σ σ2:=h▸.refl _
theorem CH{P:Program}{f:FuncId}{e:Sh}{l:List e.T}{σ:Hp}{R:AV→Hp→Prop}(h0:l=[]→ACalls P f [.aj] σ R∧ACalls P f [.gz] σ R)(h1:l≠[]→ACalls P f [.ai e l] σ R):ACalls P f [.ai e l] σ R:=by
 by_cases hl:l=[]
 ·obtain⟨k0,k1⟩:=h0 hl
  refine⟨k0.1,fun F w vs bX aC =>?_⟩
  have hv:=bX.2 0 _ rfl
  have lH:∀y,ax F w y (vs.getD 0 undef)→jb F w [y] vs:=fun y hy=>⟨bX.1,fun i x hx=>by cases i <;> simp at hx;subst hx;exact hy⟩
  subst hl
  generalize hu:vs.getD 0 undef=u at hv lH
  cases hv with
  |ai _ _ _ hr=>
   obtain⟨a,c,e1,_,e3,e0,_⟩:=hr
   obtain rfl:=J5.1 e1
   cases a with
   |none=>
    obtain rfl:=e0 rfl
    exact k0.2 F w vs (lH _ .aj) aC
   |some a=>exact k1.2 F w vs (lH _ (.gz a c e3)) aC
 ·exact h1 hl
theorem bu{k:Nat}(h:k<1000000000):AV.int .i64 (IntKind.i64.wrap ((k:Int)+1))=AV.int .i64 ((k+1:Nat):Int):=by
 rw[show IntKind.i64.wrap ((k:Int)+1)=((k+1:Nat):Int) by rw[IntKind.wrap_i64];omega]
theorem get_some{α:Type}{l:List α}{k:Nat}(h:k<l.length):l[((k:Int)).toNat]?=some l[k]:=bc h
def aE(x:AV)(σ:Hp):AV→Hp→Prop:=fun r σ'=>r=x∧σ'=σ
theorem aB{P:Program}{f:FuncId}{xs:List AV}{σ:Hp}{K:AV→Hp→Prop}(js:List Nat){x:AV}{σ2:Hp}(h:ACalls P f xs (oh js σ) (aE x σ2))(k:K x σ2):CallAt P f K xs σ:=
 CallAt.mk js _ h fun _ _ ⟨h1,h2⟩=>h1▸h2▸k
theorem aI{P:Program}{f:FuncId}{xs:List AV}{σ:Hp}{K:AV→Prop}(js:List Nat){x:AV}(h:ACalls P f xs (oh js σ) (aE x (oh js σ)))(k:K x):tW P f xs σ K:=tW.mk js x h k
theorem fM{P:Program}{f:FuncId}{xs:List AV}{σ:Hp}{K:AV→Hp→Prop}(js:List Nat){x:Bool}{σ2:Hp}(h:ACalls P f xs (oh js σ) (aE (.bool x) σ2))(k1:x=true→K (.bool true) σ2)(k2:x=false→K (.bool false) σ2):CallAt P f K xs σ:=
 aB js h (by cases x;exact k2 rfl;exact k1 rfl)
theorem ML{P:Program}{f:FuncId}{xs:List AV}{σ:Hp}{K:AV→Prop}(js:List Nat){x:Bool}(h:ACalls P f xs (oh js σ) (aE (.bool x) (oh js σ)))(k1:x=true→K (.bool true))(k2:x=false→K (.bool false)):tW P f xs σ K:=
 aI js h (by cases x;exact k2 rfl;exact k1 rfl)
theorem eO.kz{i:TI}{σ:Hp}{b o:Nat}{K:AV→Prop}(j:Nat)(cs:List AV)(x:Bool)(h1:σ[j]?=some (b,cs))(h2:dP i cs o=some (.bool x))(k1:x=true→K (.bool true))(k2:x=false→K (.bool false)):eO i σ b o K:=
 .mk j cs _ h1 h2 (by cases x;exact k2 rfl;exact k1 rfl)
theorem Ds{b off len es:Nat}{e:Sh}{l:List e.T}:eI b off len es e l (.tup []) (.tup []):=.refl _
theorem eH{b off len es:Nat}{e:Sh}{l:List e.T}{x y:AV}{xs ys:List AV}(h:eI b off len es e l x y)(t:eI b off len es e l (.tup xs) (.tup ys)):eI b off len es e l (.tup (x::xs)) (.tup (y::ys)):=by
 have hl:xs.length=ys.length∧∀(i:Nat) (x y:AV),xs[i]?=some x→ys[i]?=some y→eI b off len es e l x y:=by
  cases t with
  |refl=>exact⟨rfl,fun i x y hx hy=>by rw[hx]at hy;cases hy;exact .refl _⟩
  |tup _ _ h hi=>exact⟨h,hi⟩
 refine .tup _ _ (by simp[hl.1]) fun i x' y' hx hy=>?_
 cases i with
 |zero=>simp at hx hy;subst hx;subst hy;exact h
 |succ i=>exact hl.2 i x' y' (by simpa using hx) (by simpa using hy)
theorem eb{a b:Bool}(h:a=b):AV.bool a=AV.bool b:=by rw[h]
theorem aW{k:IntKind}{a b:Int}(h:a=b):AV.int k a=AV.int k b:=by rw[h]
theorem fB(fr b σ:Hp):(b++(fr++σ)).Perm (fr++(b++σ)):=by
 rw[← dN,← dN]
 exact List.Perm.append_right _ Pf
theorem j4.mem{σ:Hp}{b off len es:Nat}{cs:List AV}(h:(b,cs)∈σ)(h2:off+len*es≤cs.length):j4 σ es (.ae b off len es) len ((cs.drop off).take (len*es)):=by
 obtain⟨j,hj⟩:=kI.1 h
 exact .ae j b off len cs hj h2
theorem j4.perm{σ σ2:Hp}{es n:Nat}{x:AV}{new:List AV}(h:j4 σ es x n new)(hp:σ2.Perm σ):j4 σ2 es x n new:=by
 cases h with
 |aj=>exact .aj
 |kv=>exact .kv
 |gz=>exact .gz
 |ai s l h=>exact .ai s l h
 |ae j b off len cs h1 h2=>
  obtain⟨j',hj⟩:=kI.1 (hp.mem_iff.2 (bH h1))
  exact .ae j' b off _ cs hj h2
inductive Acc(e:Nat):Nat→AV→Hp→List AV→Prop where
 |nil:Acc e 0 .aj [] []
 |ae (b k:Nat) (cs:List AV) (h:cs.length=k*e):Acc e k (.ae b 0 k e) [(b,cs)] cs
theorem Acc.length{e k:Nat}{v:AV}{acc:Hp}{cs:List AV}(h:Acc e k v acc cs):cs.length=k*e:=by
 cases h with
 |nil=>simp
 |ae b k cs h=>exact h
theorem AG(fr acc σ:Hp):(acc++(fr++σ)).Perm (fr++(acc++σ)):=fB fr acc σ
theorem my{i:TI}{K:AV→Hp→Prop}(fr:Hp){acc σ:Hp}{k n:Nat}{v x:AV}{cs new:List AV}(h:Acc i.size k v acc cs)(hx:j4 (fr++(acc++σ)) i.size x n new)(hY:new.length=n*i.size)(hn:k+n≤1048576)(hb:i.bytes≤1024)(h0:0<i.size)
  (go:∀v' bN,Acc i.size (k+n) v' bN (cs++new)→K (.via v') (fr++(bN++σ))):AppendAt i (fr++(acc++σ)) v x K:=by
 have hl:=h.length
 cases h with
 |nil=>
  refine .perm _ (fB fr [] σ) (.fresh n new (.inl rfl) (hx.perm (fB fr [] σ)) (by omega) hb h0 (K:=fun v ej=>(n=0∧v=.aj∧ej=[]++(fr++σ))∨(n≠0∧∃b,v=.ae b 0 n i.size∧ej=(b,new)::([]++(fr++σ)))) (fun aO b=>.inr ⟨aO,b,rfl,rfl⟩) (fun h0=>.inl ⟨h0,rfl,rfl⟩)) ?_
  rintro v ej (⟨hz,rfl,rfl⟩ | ⟨hz,b,rfl,rfl⟩)
  ·subst hz
   obtain rfl:new=[]:=List.length_eq_zero_iff.1 (by simpa using hY)
   exact⟨_,(fB fr [] σ).symm,.inr ⟨rfl,go _ _ .nil⟩⟩
  ·refine⟨_,(fB fr [(b,new)] σ).symm,.inr ⟨rfl,go _ _ ?_⟩⟩
   have:=Acc.ae (e:=i.size) b (0+n) new (by rw[hY,dK])
   rw[dK]at this ⊢
   exact this
 |ae b k cs h=>
  refine .perm _ (fB fr [(b,cs)] σ) (.more 0 b k n cs new rfl rfl (by rw[h];exact aM _) (hx.perm (fB fr [(b,cs)] σ)) hn hb h0 (K:=fun v ej=>∃b',v=.ae b' 0 (k+n) i.size∧ej=(b',cs.take (k*i.size)++new)::(fr++σ)) (fun b'=>⟨b',rfl,rfl⟩)) ?_
  rintro v ej ⟨b',rfl,rfl⟩
  rw[eZ (by omega)]
  exact⟨_,(fB fr [(b',cs++new)] σ).symm,.inr ⟨rfl,go _ _ (.ae _ _ _ (by rw[bG,h,hY,lh]))⟩⟩
theorem xB{R:AV→Hp→Prop}(fr:Hp){acc σ:Hp}{s:Sh}{k:Nat}{v:AV}{cs:List AV}{l:List s.T}(h:Acc s.size k v acc cs)(hl:k=l.length)(hc:cs=l.flatMap s.cells)(hp:0<s.size)(go:Fin R (.ai s l) (fr++σ)):Fin R v (fr++(acc++σ)):=by
 subst hl
 have hlen:=h.length
 refine .perm (fB fr acc σ) ?_
 generalize hk:l.length=k at h
 cases h with
 |nil=>
  obtain rfl:=iS.1 hk
  exact .nil (.nil _) go
 |ae b k cs h=>
  subst hk
  exact .cI 0 b 0 l.length s.size cs s l rfl (by rw[iB,eZ (by omega)];exact hc) ⟨rfl,rfl,hp⟩ .here go
def ak(l:List Int):List AV:=l.map (.int .i64)
theorem xn:∀l:List Int,ak l=l.flatMap (Sh.cells (.int .i64))
 | []=>rfl
 |x::l=>congrArg (AV.int .i64 x :: ·) (xn l)
theorem vf{f:FuncId}{xs:List AV}{σ σ':Hp}{x y:AV}(h:ACalls Tryz.prog f xs σ (aE x σ'))(e:x=y):ACalls Tryz.prog f xs σ (aE y σ'):=e▸h
theorem vr{α:Type}{l:List α}{k:Nat}(h:k<l.length)(p:α→Bool):(l.take (k+1)).any p=((l.take k).any p||p l[k]):=by
 rw[List.take_succ_eq_append_getElem h,List.any_append];simp
set_option maxRecDepth 100000
def bB(ws:List Int):List AV:=ws.map (.int .u64)
theorem L3(n:Nat):cz [.int .u64 0] n=bB (List.replicate n 0):=by
 unfold bB
 induction n with
 |zero=>rfl
 |succ n ih=>simp[cz,ih,List.replicate_succ]
theorem rb:∀(ws:List Int),bB ws=ws.flatMap (Sh.cells (.int .u64))
 | []=>rfl
 |z::ws=>congrArg (AV.int .u64 z :: ·) (rb ws)
theorem VF(n:Int)(σ:Hp):ACalls Tryz.prog 335 [.int .i64 n] σ (fun r σ'=>∃m,r=.int .i64 m∧σ'=σ):=by
 refine aA Tryz.func335 ?_
 refine iJ ?_
 refine aq (fun h1=>?_) (fun h1=>?_)
 ·have h1:32767<n.tmod 65536:=h1
  exact .done ⟨_,rfl,rfl⟩
 ·have h1:¬(32767<n.tmod 65536):=h1
  refine aq (fun h2=>?_) (fun h2=>?_)
  ·have h2:n.tmod 65536 < -32768:=h2
   exact .done ⟨_,rfl,rfl⟩
  ·have h2:¬(n.tmod 65536 < -32768):=h2
   exact .done ⟨_,rfl,rfl⟩
theorem ais(a b:Int)(σ:Hp):ACalls Tryz.prog 309 [.int .i64 a,.int .i64 b] σ (fun r σ'=>∃x y,r=.agg [.int .i64 x,.int .i64 y]∧σ'=σ):=by
 refine aA Tryz.func309 ?_
 intro b1
 (refine .mk [] _ (VF _ _) ?_;rintro _ _ ⟨x,rfl,rfl⟩)
 (refine .mk [] _ (VF _ _) ?_;rintro _ _ ⟨x,rfl,rfl⟩)
 refine an 0 ?_
 refine aa 0 ?_
 exact .drop 0 1 (.done ⟨_,_,rfl,rfl⟩)
theorem Dh{w:Int}{k m:Nat}(hk:min (Int.toNat (k:Int)) IntKind.u64.bits=m):w.fdiv (2 ^ min (Int.toNat (k:Int)) IntKind.u64.bits)=w / 2 ^ m:=by
 rw[hk];exact Int.fdiv_eq_ediv_of_nonneg _ (Int.le_of_lt (Int.pow_pos (by decide)))
theorem Ij(w:Int):bits .and .u64 w 3=w % 4:=by
 show IntKind.u64.wrap ((BitVec.ofInt 64 w &&& BitVec.ofInt 64 3).toNat:Int)=_
 have h3:(BitVec.ofInt 64 3:BitVec 64).toNat=2 ^ 2-1:=by decide
 rw[BitVec.toNat_and,h3,Po,BitVec.toNat_ofInt,IntKind.wrap_u64]
 omega
def iG(w:Int):Bool:=decide (w % 4=2)&&decide (0≤w∧w<17179869184)
theorem aeG(w:Int)(σ:Hp):ACalls Tryz.prog 285 [.int .u64 w] σ (fun r σ'=>∃x y,r=.tup [.agg [.int .i64 x,.int .i64 y],.bool (decide (0≤w∧w<4294967296))]∧σ'=σ):=by
 have e:=Dh (k:=32) (m:=32) (w:=w) (by decide)
 refine aA Tryz.func285 ?_
 intro b1
 refine iJ ?_
 refine eG (fun h2=>?_) (fun h2=>?_)
 ·have h2:¬(w.fdiv (2 ^ min (Int.toNat 32) IntKind.u64.bits)=0):=by simpa using h2
  have hw:¬(0≤w∧w<4294967296):=fun h=>h2 (by rw[show w.fdiv (2 ^ min (Int.toNat 32) IntKind.u64.bits)=w / 2 ^ 32 from e];omega)
  refine an 0 ?_
  refine aa 0 ?_
  exact .drop 0 1 (.done ⟨_,_,by rw[b9 hw];rfl,rfl⟩)
 ·have h2:w.fdiv (2 ^ min (Int.toNat 32) IntKind.u64.bits)=0:=by simpa using h2
  have hw:0≤w∧w<4294967296:=by rw[show w.fdiv (2 ^ min (Int.toNat 32) IntKind.u64.bits)=w / 2 ^ 32 from e]at h2;omega
  refine iJ ?_
  (refine .mk [] _ (ais _ _ _) ?_;rintro _ _ ⟨x,y,rfl,rfl⟩)
  refine an 0 ?_
  refine aa 0 ?_
  exact .drop 0 1 (.done ⟨_,_,by rw[aY hw];rfl,rfl⟩)
theorem aio(w:Int)(σ:Hp):ACalls Tryz.prog 251 [.int .u64 w] σ (fun r σ'=>∃x y,r=.tup [.agg [.int .i64 x,.int .i64 y],.bool (iG w)]∧σ'=σ):=by
 have e:=Dh (k:=2) (m:=2) (w:=w) (by decide)
 refine aA Tryz.func251 ?_
 intro b1
 refine eG (fun h2=>?_) (fun h2=>?_)
 ·have h2:¬(bits BinOp.and IntKind.u64 w 3=2):=by simpa using h2
  rw[Ij]at h2
  refine an 0 ?_
  refine aa 0 ?_
  exact .drop 0 1 (.done ⟨_,_,by rw[show iG w=false by simp[iG,h2]];rfl,rfl⟩)
 ·have h2:bits BinOp.and IntKind.u64 w 3=2:=by simpa using h2
  rw[Ij]at h2
  refine iJ ?_
  have e':w.fdiv (2 ^ min (Int.toNat 2) IntKind.u64.bits)=w / 4:=e
  refine .mk [] _ (aeG _ _) ?_
  rintro _ _ ⟨x,y,rfl,rfl⟩
  have hk:decide (0≤w.fdiv (2 ^ min (Int.toNat 2) IntKind.u64.bits)∧w.fdiv (2 ^ min (Int.toNat 2) IntKind.u64.bits)<4294967296)=iG w:=by
   rw[e',show iG w=decide (0≤w∧w<17179869184) by simp[iG,h2]];exact decide_eq_decide.2 (by omega)
  refine an 0 ?_
  refine aa 0 ?_
  exact .drop 0 1 (.done ⟨_,_,by rw[hk];rfl,rfl⟩)
def bR(w:Int):Int:=if w=0 then 0 else if w=1 then 1 else if iG w then w else 1
theorem SR{w:Int}(h:iG w=true):w≠0∧w≠1:=by
 unfold iG at h;simp at h;omega
theorem aIs(w:Int)(σ:Hp):ACalls Tryz.prog 202 [.int .u64 w] σ (aE (.bool (iG w||decide (w=0)||decide (w=1))) σ):=by
 refine aA Tryz.func202 ?_
 refine .mk [] _ (aio w _) ?_
 rintro _ _ ⟨x,y,rfl,rfl⟩
 cases hn:iG w
 ·intro aG
  refine an 0 ?_
  refine aq (fun c2=>?_) (fun c2=>?_)
  ·have c2:w=0:=c2
   exact .drop 0 1 (.done ⟨eb (by simp[*]),rfl⟩)
  ·have c2:¬(w=0):=c2
   refine aq (fun c3=>?_) (fun c3=>?_)
   ·have c3:w=1:=c3
    exact .drop 0 1 (.done ⟨eb (by simp[*]),rfl⟩)
   ·have c3:¬(w=1):=c3
    exact .drop 0 1 (.done ⟨eb (by simp[*]),rfl⟩)
 ·intro aG
  refine an 0 ?_
  exact .drop 0 1 (.done ⟨eb (by simp[*]),rfl⟩)
theorem Nq(w:Int)(σ:Hp):ACalls Tryz.prog 333 [.int .u64 w] σ (aE (.int .u64 (bR w)) σ):=by
 refine aA Tryz.func333 ?_
 refine fM [] (aIs w σ) (fun h=>?_) (fun h=>?_)
 ·refine .done ⟨aW ?_,rfl⟩
  unfold bR
  simp at h
  rcases h with (h | h) | h
  ·simp[h,SR h]
  ·simp[h]
  ·simp[h]
 ·exact .done ⟨aW (by unfold bR;simp at h;simp[h]),rfl⟩
def np(a b:Int):Int:=if bR a=bR b∨bR b=0 then bR a else if bR a=0 then bR b else 1
theorem agn(a b:Int)(σ:Hp):ACalls Tryz.prog 304 [.int .u64 a,.int .u64 b] σ (aE (.int .u64 (np a b)) σ):=by
 refine aA Tryz.func304 ?_
 refine aB [] (Nq _ _) ?_
 refine aB [] (Nq _ _) ?_
 refine aq (fun c1=>?_) (fun c1=>?_)
 ·have c1:bR a=bR b:=c1
  exact .done ⟨aW (by unfold np;split <;> (try split) <;> omega),rfl⟩
 ·have c1:¬(bR a=bR b):=c1
  refine aq (fun c2=>?_) (fun c2=>?_)
  ·have c2:bR b=0:=c2
   exact .done ⟨aW (by unfold np;split <;> (try split) <;> omega),rfl⟩
  ·have c2:¬(bR b=0):=c2
   refine aq (fun c3=>?_) (fun c3=>?_)
   ·have c3:bR a=0:=c3
    exact .done ⟨aW (by unfold np;split <;> (try split) <;> omega),rfl⟩
   ·have c3:¬(bR a=0):=c3
    exact .done ⟨aW (by unfold np;split <;> (try split) <;> omega),rfl⟩
def dx(what a b:Int):Int:=if what=1 then bits .or .u64 a b else if what=2 then bits .and .u64 a b else if what=3 then np a b else 0
theorem Wh(what a b:Int)(σ:Hp):ACalls Tryz.prog 279 [.int .i64 what,.int .u64 a,.int .u64 b] σ (aE (.int .u64 (dx what a b)) σ):=by
 refine aA Tryz.func279 ?_
 refine aq (fun c1=>?_) (fun c1=>?_)
 ·have c1:what=1:=c1
  exact .done ⟨aW (by simp[dx, *]),rfl⟩
 ·have c1:¬(what=1):=c1
  refine aq (fun c2=>?_) (fun c2=>?_)
  ·have c2:what=2:=c2
   exact .done ⟨aW (by simp[dx, *]),rfl⟩
  ·have c2:¬(what=2):=c2
   refine aq (fun c3=>?_) (fun c3=>?_)
   ·have c3:what=3:=c3
    refine aB [] (agn _ _ _) ?_
    exact .done ⟨aW (by simp[dx, *]),rfl⟩
   ·have c3:¬(what=3):=c3
    exact .done ⟨aW (by simp[dx, *]),rfl⟩
def wd(a:List Int)(i:Nat):Int:=(a[i]?).getD 0
def bM(z:Int):Prop:=0≤z∧z<18446744073709551616
def bA(l:List Int):Prop:=∀z∈l,bM z
theorem Dd(n:Int):bM (IntKind.u64.wrap n):=by rw[IntKind.wrap_u64];unfold bM;omega
theorem Ur{w:Int}(h:bM w):bM (bR w):=by
 unfold bR
 split
 ·exact⟨by decide,by decide⟩
 ·split
  ·exact⟨by decide,by decide⟩
  ·split
   ·exact h
   ·exact⟨by decide,by decide⟩
theorem TL{what a b:Int}(ha:bM a)(hb:bM b):bM (dx what a b):=by
 unfold dx
 split
 ·exact Dd _
 ·split
  ·exact Dd _
  ·split
   ·unfold np
    split
    ·exact Ur ha
    ·split
     ·exact Ur hb
     ·exact⟨by decide,by decide⟩
   ·exact⟨by decide,by decide⟩
theorem oe{l:List Int}(h:bA l)(i:Nat):bM (wd l i):=by
 unfold wd
 cases hq:l[i]? with
 |none=>exact⟨by decide,by decide⟩
 |some x=>exact h x (bH hq)
def xT(ws:List Int)(a:Int):Bool:=decide (0≤a)&&decide (a<ws.length)
def gD(ws:List Int)(a:Int):Int:=if a<0 then 0 else ws.getD a.toNat 0
def gZ(ws:List Int)(a x:Int):List Int:=if a<0 then ws else ws.set a.toNat x
def rK(n:Int):Nat:=(min (max n 0) 1048576).toNat
theorem aeo(n:Int):rK n≤1048576:=by unfold rK;omega
theorem CR{ws:List Int}{a:Int}(h:0≤a)(h1:a<ws.length):xT ws a=true:=by simp[xT,h,h1]
theorem G8(a n:Int)(h:0≤a)(h1:a<n):(decide (0≤a)&&decide (a<n))=true:=by simp[h,h1]
theorem GO(a n:Int)(h:¬(0≤a∧a<n)):(decide (0≤a)&&decide (a<n))=false:=by simp;omega
theorem n5{ws:List Int}{a:Nat}:gD ws (a:Int)=ws.getD a 0:=by
 unfold gD;rw[ah (by omega)];rfl
theorem aa7{ws:List Int}{a:Int}(h:¬(0≤a∧a<(ws.length:Int))):gD ws a=0:=by
 unfold gD
 split
 ·rfl
 ·rw[List.getD,uS (by omega)];rfl
theorem lq{ws:List Int}{a:Nat}(x:Int):gZ ws (a:Int) x=ws.set a x:=by
 unfold gZ;rw[ah (by omega)];rfl
theorem YB{ws:List Int}{a x:Int}(h:¬(0≤a∧a<(ws.length:Int))):gZ ws a x=ws:=by
 unfold gZ
 split
 ·rfl
 ·exact List.set_eq_of_length_le (by omega)
theorem Aj(ws:List Int)(a x:Int):(gZ ws a x).length=ws.length:=by unfold gZ;split <;> simp
def nA(ws:List Int)(a old:Int):Bool:=xT ws a&&(gD ws a == old)
def iX(ws:List Int)(a old to:Int):List Int:=if nA ws a old then gZ ws a to else ws
theorem w6(ws:List Int)(a o t:Int):(iX ws a o t).length=ws.length:=by unfold iX;split <;> simp[Aj]
def Ep(ws:List Int)(a d:Int):Int:=if xT ws a then (gD ws a+d) % 18446744073709551616 else 0
def ni(ws:List Int)(a d:Int):List Int:=if xT ws a then gZ ws a ((gD ws a+d) % 18446744073709551616) else ws
theorem PL(ws:List Int)(a d:Int):(ni ws a d).length=ws.length:=by unfold ni;split <;> simp[Aj]
def ur(q n:Nat):List AV:=[.int .i64 n,.ae q 0 n 1]
theorem Hd{ws:List Int}{k:Nat}(h:k<ws.length):(bB ws)[0+((k:Int)).toNat*1]?=some (.int .u64 (ws.getD k 0)):=by
 simp[bB,h,List.getD]
theorem adf{ws:List Int}{k:Nat}(x:Int):(bB ws).set k (.int .u64 x)=bB (ws.set k x):=by simp[bB,List.map_set]
theorem LU{ws:List Int}{k:Nat}(x:Int)(h:k<ws.length):kn ⟨.int .u64,1,8,[.int .u64 0]⟩ (bB ws) (0+((k:Int)).toNat*1) (.int .u64 x)=some (bB (ws.set k x)):=by
 have e:0+((k:Int)).toNat*1=k:=by omega
 have h2:Nat.ble (k+1) (bB ws).length=true:=Nat.ble_eq_true_of_le (by simp[bB];omega)
 rw[e]
 show (match Nat.beq 1 1,Nat.ble (k+1) (bB ws).length with | true,true=>some (e8 (bB ws) k [.int .u64 x]) | _,_=>none)=_
 rw[h2]
 show some ((bB ws).set k (.int .u64 x))=_
 rw[adf]
theorem I0(n a:Int)(σ:Hp):ACalls Tryz.prog 387 [.agg [.int .i64 n],.int .i64 a] σ (aE (.bool (decide (0≤a)&&decide (a<n))) σ):=by
 refine aA Tryz.func387 ?_
 intro b
 refine aq (fun h=>?_) (fun h=>?_)
 ·refine aa 0 ?_
  refine aq (fun h2=>?_) (fun h2=>?_)
  ·exact .drop 0 1 (.done ⟨eb (by simp[h,h2]),rfl⟩)
  ·exact .drop 0 1 (.done ⟨eb (by simp[h2]),rfl⟩)
 ·exact .drop 0 1 (.done ⟨eb (by simp[h]),rfl⟩)
theorem W8(n:Int)(σ:Hp):ACalls Tryz.prog 155 [.int .i64 n] σ (aE (.agg [.int .i64 (rK n)]) σ):=by
 refine aA Tryz.func155 ?_
 intro b
 refine an 0 ?_
 refine aa 0 ?_
 refine .drop 0 1 (.done ⟨?_,rfl⟩)
 show AV.agg [.int .i64 (if (1048576:Int)<(if n<0 then 0 else n) then 1048576 else (if n<0 then 0 else n))]=_
 have e:(if (1048576:Int)<(if n<0 then 0 else n) then 1048576 else (if n<0 then 0 else n))=((rK n:Nat):Int):=by
  unfold rK
  by_cases h:n<0
  ·simp only[ag h];omega
  ·simp only[ah h];split <;> omega
 rw[e]
theorem aip(n:Int)(σ:Hp):ACalls Tryz.prog 90 [.int .i64 n] σ (fun r σ'=>∃p q,r=.ptr p 0∧σ'=(p,ur q (rK n))::(q,bB (List.replicate (rK n) 0))::σ):=by
 have hc:=aeo n
 refine aA Tryz.func90 ?_
 refine aB [] (W8 n σ) ?_
 refine aB [] (W8 n σ) ?_
 refine aH.mk ⟨by omega,lf _,by omega,by decide⟩ ?_
 intro q p
 refine .done ⟨p,q,rfl,?_⟩
 show (p,_)::(q,_)::σ=_
 rw[show ((rK n:Int)).toNat=rK n by omega,show (cz [AV.int .u64 0] (rK n))=_ from L3 _]
 rfl
theorem aLoad(p q:Nat)(ws:List Int)(a:Int)(σ:Hp):ACalls Tryz.prog 385 [.ptr p 0,.int .i64 a] ((p,ur q ws.length)::(q,bB ws)::σ) (aE (.int .u64 (gD ws a)) ((p,ur q ws.length)::(q,bB ws)::σ)):=by
 refine aA Tryz.func385 ?_
 refine aa 0 ?_
 refine aB [] (I0 ws.length a _) ?_
 by_cases hh:0≤a∧a<(ws.length:Int)
 ·rw[G8 a ws.length hh.1 hh.2]
  obtain⟨k,rfl⟩:=mn hh.1
  have hk:k<ws.length:=by omega
  refine aa 0 ?_
  refine aH.mk ⟨rfl,hh.1,hh.2⟩ ?_
  refine aT 1 rfl (Hd hk) ?_
  exact .done ⟨aW n5.symm,rfl⟩
 ·rw[GO a ws.length hh]
  exact .done ⟨aW (aa7 hh).symm,rfl⟩
abbrev ca(p q:Nat)(ws:List Int)(σ:Hp):Hp:=(p,ur q ws.length)::(q,bB ws)::σ
theorem aStore(p q:Nat)(ws:List Int)(a x:Int)(σ:Hp):ACalls Tryz.prog 386 [.ptr p 0,.int .i64 a,.int .u64 x] (ca p q ws σ) (aE (.tup []) (ca p q (gZ ws a x) σ)):=by
 refine aA Tryz.func386 ?_
 refine aa 0 ?_
 refine aB [] (I0 ws.length a _) ?_
 by_cases hh:0≤a∧a<(ws.length:Int)
 ·rw[G8 a ws.length hh.1 hh.2]
  obtain⟨k,rfl⟩:=mn hh.1
  have hk:k<ws.length:=by omega
  refine aa 0 ?_
  refine aH.mk ⟨rfl,hh.1,hh.2⟩ ?_
  refine cU 1 rfl (LU x hk) ?_
  refine .done ⟨rfl,?_⟩
  show (p,ur q ws.length)::(q,bB (ws.set k x))::σ=_
  rw[lq];unfold ca;rw[ck]
 ·rw[GO a ws.length hh]
  refine .done ⟨rfl,?_⟩
  rw[YB hh];rfl
theorem aCas(p q:Nat)(ws:List Int)(a x y:Int)(σ:Hp):ACalls Tryz.prog 383 [.ptr p 0,.int .i64 a,.int .u64 x,.int .u64 y] (ca p q ws σ) (aE (.bool (nA ws a x)) (ca p q (iX ws a x y) σ)):=by
 refine aA Tryz.func383 ?_
 refine aa 0 ?_
 refine aB [] (I0 ws.length a _) ?_
 by_cases hh:0≤a∧a<(ws.length:Int)
 ·rw[G8 a ws.length hh.1 hh.2]
  have hH:=CR hh.1 hh.2
  obtain⟨k,rfl⟩:=mn hh.1
  have hk:k<ws.length:=by omega
  refine aa 0 ?_
  refine aH.mk ⟨rfl,hh.1,hh.2⟩ ?_
  refine aT 1 rfl (Hd hk) ?_
  refine eG (fun he=>?_) (fun he=>?_)
  ·have he:¬ws.getD k 0=x:=by simpa using he
   have e1:nA ws k x=false:=by unfold nA;rw[hH,n5];simpa using he
   refine .done ⟨by rw[e1];rfl,?_⟩
   rw[show iX ws k x y=ws by simp[iX,e1]];rfl
  ·have he:ws.getD k 0=x:=by simpa using he
   have e1:nA ws k x=true:=by unfold nA;rw[hH,n5,he];simp
   refine aa 0 ?_
   refine aH.mk ⟨rfl,hh.1,hh.2⟩ ?_
   refine cU 1 rfl (LU y hk) ?_
   refine .done ⟨by rw[e1];rfl,?_⟩
   show (p,ur q ws.length)::(q,bB (ws.set k y))::σ=_
   rw[show iX ws k x y=ws.set k y by simp[iX,e1,lq]];unfold ca;rw[List.length_set]
 ·have hb:=GO a ws.length hh
  rw[hb]
  have e1:nA ws a x=false:=by simp only[nA,xT,hb,JL]
  refine .done ⟨by rw[e1];rfl,?_⟩
  rw[show iX ws a x y=ws by simp[iX,e1]];rfl
theorem aAdd(p q:Nat)(ws:List Int)(a d:Int)(σ:Hp):ACalls Tryz.prog 382 [.ptr p 0,.int .i64 a,.int .u64 d] (ca p q ws σ) (aE (.int .u64 (Ep ws a d)) (ca p q (ni ws a d) σ)):=by
 refine aA Tryz.func382 ?_
 refine aa 0 ?_
 refine aB [] (I0 ws.length a _) ?_
 by_cases hh:0≤a∧a<(ws.length:Int)
 ·rw[G8 a ws.length hh.1 hh.2]
  have hH:=CR hh.1 hh.2
  obtain⟨k,rfl⟩:=mn hh.1
  have hk:k<ws.length:=by omega
  have e1:Ep ws k d=IntKind.u64.wrap (ws.getD k 0+d):=by rw[IntKind.wrap_u64];simp only[Ep,hH,if_true,n5]
  have e2:ni ws k d=ws.set k (IntKind.u64.wrap (ws.getD k 0+d)):=by rw[IntKind.wrap_u64];simp only[ni,hH,if_true,n5,lq]
  refine aa 0 ?_
  refine aH.mk ⟨rfl,hh.1,hh.2⟩ ?_
  refine aT 1 rfl (Hd hk) ?_
  refine aH.mk ⟨rfl,hh.1,hh.2⟩ ?_
  refine cU 1 rfl (LU _ hk) ?_
  refine aa 0 ?_
  refine aH.mk ⟨rfl,hh.1,hh.2⟩ ?_
  refine aT 1 rfl (Hd (ws:=ws.set k (IntKind.u64.wrap (ws.getD k 0+d))) (by rw[ck];exact hk)) ?_
  refine .done ⟨aW (by rw[e1];simp[List.getD,hk]),?_⟩
  rw[e2];unfold ca;rw[ck];rfl
 ·have hb:=GO a ws.length hh
  rw[hb]
  refine .done ⟨aW (by unfold Ep;unfold xT;rw[hb];rfl),?_⟩
  rw[show ni ws a d=ws by unfold ni xT;rw[hb];rfl];rfl
theorem W4(p q:Nat)(ws:List Int)(σ:Hp):ACalls Tryz.prog 384 [.ptr p 0] (ca p q ws σ) (aE (.int .i64 ws.length) (ca p q ws σ)):=by
 refine aA Tryz.func384 ?_
 refine aa 0 ?_
 exact .done ⟨rfl,rfl⟩
theorem mLen_ : Meth Tryz.prog 94 "Len" 384 := fun a w => by kernel_rfl
theorem mLoad_ : Meth Tryz.prog 94 "Load" 385 := fun a w => by kernel_rfl
theorem mStore_ : Meth Tryz.prog 94 "Store" 386 := fun a w => by kernel_rfl
theorem mCAS_ : Meth Tryz.prog 94 "CAS" 383 := fun a w => by kernel_rfl
theorem mAdd_ : Meth Tryz.prog 94 "Add" 382 := fun a w => by kernel_rfl
theorem hStore_ : AheadOk Tryz.prog 94 "Store" := fun a w => by kernel_rfl
theorem hCAS_ : AheadOk Tryz.prog 94 "CAS" := fun a w => by kernel_rfl
theorem hAdd_ : AheadOk Tryz.prog 94 "Add" := fun a w => by kernel_rfl
theorem hLoad_ : AheadOk Tryz.prog 94 "Load" := fun a w => by kernel_rfl
abbrev mK(p:Nat):AV:=.iface 94 (.ptr p 0)
theorem dO(t:Nat)(x:AV)(σ:Hp):ACalls Tryz.prog 110 [.iface t x] σ (aE (.iface t x) σ):=by
 refine aA Tryz.func110 ?_
 exact .done ⟨rfl,rfl⟩
structure j9 where
 A:Type
 ld:A→Int→Int×A
 st:A→Int→Int→A
 cs:A→Int→Int→Int→Bool×A
 ad:A→Int→Int→Int×A
 ln:A→Int
 free:A→Prop
abbrev bj:j9 where
 A:=List Int
 ld ws a:=(gD ws a,ws)
 st ws a x:=gZ ws a x
 cs ws a x y:=(nA ws a x,iX ws a x y)
 ad ws a d:=(Ep ws a d,ni ws a d)
 ln ws:=ws.length
 free _:=True
structure AMem where
 O:j9
 S:Type
 abs:S→O.A
 B:S→Hp
 t:TypeId
 p:Nat
 load : ∃ g, Meth Tryz.prog t "Load" g ∧ ∀ (s : S) (a : Int) (σ : Hp), O.free (abs s) → ACalls Tryz.prog g [.ptr p 0, .int .i64 a] (B s ++ σ) (fun r σ' => ∃ s', abs s' = (O.ld (abs s) a).2 ∧ r = .int .u64 (O.ld (abs s) a).1 ∧ σ' = B s' ++ σ)
 store : ∃ g, Meth Tryz.prog t "Store" g ∧ ∀ (s : S) (a x : Int) (σ : Hp), O.free (abs s) → ACalls Tryz.prog g [.ptr p 0, .int .i64 a, .int .u64 x] (B s ++ σ) (fun r σ' => ∃ s', abs s' = O.st (abs s) a x ∧ r = .tup [] ∧ σ' = B s' ++ σ)
 cas : ∃ g, Meth Tryz.prog t "CAS" g ∧ ∀ (s : S) (a x y : Int) (σ : Hp), O.free (abs s) → ACalls Tryz.prog g [.ptr p 0, .int .i64 a, .int .u64 x, .int .u64 y] (B s ++ σ) (fun r σ' => ∃ s', abs s' = (O.cs (abs s) a x y).2 ∧ r = .bool (O.cs (abs s) a x y).1 ∧ σ' = B s' ++ σ)
 add : ∃ g, Meth Tryz.prog t "Add" g ∧ ∀ (s : S) (a d : Int) (σ : Hp), O.free (abs s) → ACalls Tryz.prog g [.ptr p 0, .int .i64 a, .int .u64 d] (B s ++ σ) (fun r σ' => ∃ s', abs s' = (O.ad (abs s) a d).2 ∧ r = .int .u64 (O.ad (abs s) a d).1 ∧ σ' = B s' ++ σ)
 hL : AheadOk Tryz.prog t "Load"
 hS : AheadOk Tryz.prog t "Store"
 hC : AheadOk Tryz.prog t "CAS"
 hA : AheadOk Tryz.prog t "Add"
 len : ∃ g, Meth Tryz.prog t "Len" g ∧ ∀ (s : S) (σ : Hp), ACalls Tryz.prog g [.ptr p 0] (B s ++ σ) (fun r σ' => ∃ s', abs s' = abs s ∧ r = .int .i64 (O.ln (abs s)) ∧ σ' = B s' ++ σ)
abbrev AMem.v(M:AMem):AV:=.iface M.t (.ptr M.p 0)
theorem tp(fr b σ:Hp):(b++(fr++σ)).Perm (fr++(b++σ)):=by
 rw[← dN,← dN]
 exact List.Perm.append_right _ Pf
section
variable (M:AMem) (fr:Hp) {s:M.S} {σ:Hp} {K:AV→Hp→Prop}
theorem AMem.aLoad {a : Int} (hf : M.O.free (M.abs s)) (k : ∀ s', M.abs s' = (M.O.ld (M.abs s) a).2 → K (.int .u64 (M.O.ld (M.abs s) a).1) (fr ++ (M.B s' ++ σ))) : InvAt Tryz.prog M.t "Load" fun g => CallAt Tryz.prog g K [.ptr M.p 0, .int .i64 a] (fr ++ (M.B s ++ σ)) := by
 obtain⟨g,h1,h2⟩:=M.load
 refine⟨g,h1,.perm _ (tp fr (M.B s) σ) (h2 s a (fr++σ) hf) ?_⟩
 rintro r σ' ⟨s',h3,rfl,rfl⟩
 exact⟨_,(tp fr (M.B s') σ).symm,k s' h3⟩
theorem AMem.aStore {a x : Int} (hf : M.O.free (M.abs s)) (k : ∀ s', M.abs s' = M.O.st (M.abs s) a x → K (.tup []) (fr ++ (M.B s' ++ σ))) : InvAt Tryz.prog M.t "Store" fun g => CallAt Tryz.prog g K [.ptr M.p 0, .int .i64 a, .int .u64 x] (fr ++ (M.B s ++ σ)) := by
 obtain⟨g,h1,h2⟩:=M.store
 refine⟨g,h1,.perm _ (tp fr (M.B s) σ) (h2 s a x (fr++σ) hf) ?_⟩
 rintro r σ' ⟨s',h3,rfl,rfl⟩
 exact⟨_,(tp fr (M.B s') σ).symm,k s' h3⟩
theorem AMem.aCas {a x y : Int} (hf : M.O.free (M.abs s)) (k : ∀ s', M.abs s' = (M.O.cs (M.abs s) a x y).2 → K (.bool (M.O.cs (M.abs s) a x y).1) (fr ++ (M.B s' ++ σ))) : InvAt Tryz.prog M.t "CAS" fun g => CallAt Tryz.prog g K [.ptr M.p 0, .int .i64 a, .int .u64 x, .int .u64 y] (fr ++ (M.B s ++ σ)) := by
 obtain⟨g,h1,h2⟩:=M.cas
 refine⟨g,h1,.perm _ (tp fr (M.B s) σ) (h2 s a x y (fr++σ) hf) ?_⟩
 rintro r σ' ⟨s',h3,rfl,rfl⟩
 exact⟨_,(tp fr (M.B s') σ).symm,k s' h3⟩
theorem AMem.aCasB {a x y : Int} (hf : M.O.free (M.abs s)) (k1 : ∀ s', M.abs s' = (M.O.cs (M.abs s) a x y).2 → (M.O.cs (M.abs s) a x y).1 = true → K (.bool true) (fr ++ (M.B s' ++ σ))) (k2 : ∀ s', M.abs s' = (M.O.cs (M.abs s) a x y).2 → (M.O.cs (M.abs s) a x y).1 = false → K (.bool false) (fr ++ (M.B s' ++ σ))) : InvAt Tryz.prog M.t "CAS" fun g => CallAt Tryz.prog g K [.ptr M.p 0, .int .i64 a, .int .u64 x, .int .u64 y] (fr ++ (M.B s ++ σ)) :=
 M.aCas fr hf fun s' h=>by
  cases hb:(M.O.cs (M.abs s) a x y).1 with
  |true=>exact k1 s' h hb
  |false=>exact k2 s' h hb
theorem AMem.aAdd {a d : Int} (hf : M.O.free (M.abs s)) (k : ∀ s', M.abs s' = (M.O.ad (M.abs s) a d).2 → K (.int .u64 (M.O.ad (M.abs s) a d).1) (fr ++ (M.B s' ++ σ))) : InvAt Tryz.prog M.t "Add" fun g => CallAt Tryz.prog g K [.ptr M.p 0, .int .i64 a, .int .u64 d] (fr ++ (M.B s ++ σ)) := by
 obtain⟨g,h1,h2⟩:=M.add
 refine⟨g,h1,.perm _ (tp fr (M.B s) σ) (h2 s a d (fr++σ) hf) ?_⟩
 rintro r σ' ⟨s',h3,rfl,rfl⟩
 exact⟨_,(tp fr (M.B s') σ).symm,k s' h3⟩
end
def zc(p q:Nat):AMem where
 O:=bj
 S:=List Int
 abs ws:=ws
 B ws:=[(p,ur q ws.length),(q,bB ws)]
 t:=94
 p:=p
 load:=⟨_,mLoad_,fun ws a σ _=>(Go.Proofs.YtnikdflhefijbaaGreat.aLoad p q ws a σ).mono fun _ _ h=>⟨ws,rfl,h.1,h.2⟩⟩
 store:=⟨_,mStore_,fun ws a x σ _=>(Go.Proofs.YtnikdflhefijbaaGreat.aStore p q ws a x σ).mono fun _ _ h=>⟨_,rfl,h.1,h.2⟩⟩
 cas:=⟨_,mCAS_,fun ws a x y σ _=>(Go.Proofs.YtnikdflhefijbaaGreat.aCas p q ws a x y σ).mono fun _ _ h=>⟨_,rfl,h.1,h.2⟩⟩
 add:=⟨_,mAdd_,fun ws a d σ _=>(Go.Proofs.YtnikdflhefijbaaGreat.aAdd p q ws a d σ).mono fun _ _ h=>⟨_,rfl,h.1,h.2⟩⟩
 hL:=hLoad_
 hS:=hStore_
 hC:=hCAS_
 hA:=hAdd_
 len:=⟨_,mLen_,fun ws σ=>(Go.Proofs.YtnikdflhefijbaaGreat.W4 p q ws σ).mono fun _ _ h=>⟨ws,rfl,h.1,h.2⟩⟩
abbrev wr(n:Int):Int:=IntKind.i64.wrap n
structure Tk where
 f:Int
 c:Int
 v:Int
 new:Bool
 ended:Bool
 jH:Bool
def zJ(t:Tk):List AV:=[.int .i64 t.f,.int .i64 t.c,.int .i64 t.v,.bool t.new,.bool t.ended,.bool t.jH]
def kN(O:j9)(t:Tk)(a:O.A):Tk×O.A×Bool:=
 if t.ended then (t,a,true)
 else if t.jH then ({ t with ended:=true },(O.ad a t.c 1).2,true)
 else if 0≤t.v then
  (if (O.cs a (wr (t.f+t.v)) 0 1).1 then ({ t with jH:=true,new:=true },(O.cs a (wr (t.f+t.v)) 0 1).2,false) else ({ t with jH:=true,new:=false,ended:=true },(O.cs a (wr (t.f+t.v)) 0 1).2,true))
 else ({ t with jH:=true,new:=false,ended:=true },a,true)
def qs(M:AMem)(σ:Hp){X:Type}(B:X→List AV)(r:Nat)(res:X×M.O.A×Bool):AV→Hp→Prop:=
 fun x σ'=>∃m',M.abs m'=res.2.1∧x=.bool res.2.2∧σ'=(r,B res.1)::(M.B m'++σ)
theorem j0{M:AMem}{σ:Hp}{X:Type}{B:X→List AV}{r:Nat}{res:X×M.O.A×Bool}{x:X}{a:M.O.A}{b:Bool}{m':M.S}(h:res=(x,a,b))(hm:M.abs m'=a):qs M σ B r res (.bool b) ((r,B x)::(M.B m'++σ)):=by
 subst h
 exact⟨m',hm,rfl,rfl⟩
theorem Ik(M:AMem)(r:Nat)(t:Tk)(m:M.S)(d:Int)(σ:Hp)(hf:M.O.free (M.abs m)):ACalls Tryz.prog 408 [.ptr r 0,M.v,.int .i64 d] ((r,zJ t)::(M.B m++σ)) (qs M σ zJ r (kN M.O t (M.abs m))):=by
 refine aA Tryz.func408 ?_
 refine eO.kz 0 _ _ rfl rfl (fun h0=>?_) (fun h0=>?_)
 ·exact .done (j0 (x:=t) (by simp[kN,h0]) rfl)
 refine aB [] (dO _ _ _) ?_
 refine eO.kz 0 _ _ rfl rfl (fun h1=>?_) (fun h1=>?_)
 ·refine .each (by kernel_rfl) ?_
  refine aa 0 ?_
  refine fj.mk M.hA ?_
  refine M.aAdd [_] hf fun m' hm=>?_
  refine .fwd 1 ?_
  refine an 0 ?_
  exact .done (j0 (x:= { t with ended:=true }) (by simp[kN,h0,h1]) hm)
 refine an 0 ?_
 refine .each (by kernel_rfl) ?_
 by_cases h2:0≤t.v
 ·repeat' first
   |refine And.intro ?_ ?_
   |refine aa 0 ?_
   |refine aq (fun _=>?_) (fun h=>absurd h2 h)
   |refine fj.mk M.hC ?_
  all_goals
   refine M.aCasB [_] hf (fun m' hm hb=>?_) (fun m' hm hb=>?_)
   ·refine an 0 ?_
    refine aa 0 ?_
    exact .done (j0 (x:= { t with jH:=true,new:=true }) (by simp[kN,h0,h1,h2,hb]) hm)
   ·refine an 0 ?_
    refine aa 0 ?_
    refine an 0 ?_
    exact .done (j0 (x:= { t with jH:=true,new:=false,ended:=true }) (by simp[kN,h0,h1,h2,hb]) hm)
 ·repeat' first
   |refine And.intro ?_ ?_
   |refine aa 0 ?_
   |refine aq (fun h=>absurd h h2) (fun _=>?_)
   |refine an 0 ?_
  all_goals
   exact .done (j0 (x:= { t with jH:=true,new:=false,ended:=true }) (by simp[kN,h0,h1,h2]) rfl)
structure Ck where
 f:Int
 c:Int
 v:Int
 ended:Bool
def F6(t:Ck):List AV:=[.int .i64 t.f,.int .i64 t.c,.int .i64 t.v,.bool t.ended]
def sq(O:j9)(t:Ck)(a:O.A):Ck×O.A×Bool:=
 if t.ended then (t,a,true) else ({ t with ended:=true },if 0≤t.v then O.st a (wr (t.f+t.v)) 0 else a,true)
theorem VK(M:AMem)(r:Nat)(t:Ck)(m:M.S)(d:Int)(σ:Hp)(hf:M.O.free (M.abs m)):ACalls Tryz.prog 405 [.ptr r 0,M.v,.int .i64 d] ((r,F6 t)::(M.B m++σ)) (qs M σ F6 r (sq M.O t (M.abs m))):=by
 refine aA Tryz.func405 ?_
 refine eO.kz 0 _ _ rfl rfl (fun h0=>?_) (fun h0=>?_)
 ·exact .done (j0 (x:=t) (by simp[sq,h0]) rfl)
 refine an 0 ?_
 refine aa 0 ?_
 refine aq (fun h2=>?_) (fun h2=>?_)
 ·have h2:0≤t.v:=h2
  refine .each (by kernel_rfl) ?_
  repeat' first
   |refine And.intro ?_ ?_
   |refine aa 0 ?_
   |refine aB [] (dO _ _ _) ?_
   |refine fj.mk M.hS ?_
  all_goals
   refine M.aStore [_] hf fun m' hm=>?_
   exact .done (j0 (x:= { t with ended:=true }) (by simp[sq,h0,h2]) hm)
 ·have h2:¬0≤t.v:=h2
  exact .done (j0 (x:= { t with ended:=true }) (by simp[sq,h0,h2]) rfl)
structure Rk where
 f:Int
 c:Int
 left:Int
 ended:Bool
def EP(t:Rk):List AV:=[.int .i64 t.f,.int .i64 t.c,.int .i64 t.left,.bool t.ended]
def tI(O:j9)(t:Rk)(a:O.A):Rk×O.A×Bool:=
 if t.ended then (t,a,true) else ({ t with ended:=true,left:=wr (O.ad a t.c 18446744073709551615).1 },(O.ad a t.c 18446744073709551615).2,true)
theorem UO(M:AMem)(r:Nat)(t:Rk)(m:M.S)(d:Int)(σ:Hp)(hf:M.O.free (M.abs m)):ACalls Tryz.prog 410 [.ptr r 0,M.v,.int .i64 d] ((r,EP t)::(M.B m++σ)) (qs M σ EP r (tI M.O t (M.abs m))):=by
 refine aA Tryz.func410 ?_
 refine eO.kz 0 _ _ rfl rfl (fun h0=>?_) (fun h0=>?_)
 ·exact .done (j0 (x:=t) (by simp[tI,h0]) rfl)
 refine an 0 ?_
 refine .each (by kernel_rfl) ?_
 repeat' first
  |refine And.intro ?_ ?_
  |refine aa 0 ?_
  |refine aB [] (dO _ _ _) ?_
  |refine fj.mk M.hA ?_
 all_goals
  refine M.aAdd [_] hf fun m' hm=>?_
  refine an 0 ?_
  exact .done (j0 (x:= { t with ended:=true,left:=wr (M.O.ad (M.abs m) t.c 18446744073709551615).1 }) (by simp[tI,h0]) hm)
structure Qk where
 f:Int
 c:Int
 is:Bool
 ended:Bool
def ES(t:Qk):List AV:=[.int .i64 t.f,.int .i64 t.c,.bool t.is,.bool t.ended]
def so(O:j9)(t:Qk)(a:O.A):Qk×O.A×Bool:=
 if t.ended then (t,a,true) else ({ t with ended:=true,is:=decide ((O.ld a t.c).1=0) },(O.ld a t.c).2,true)
theorem HY(M:AMem)(r:Nat)(t:Qk)(m:M.S)(d:Int)(σ:Hp)(hf:M.O.free (M.abs m)):ACalls Tryz.prog 404 [.ptr r 0,M.v,.int .i64 d] ((r,ES t)::(M.B m++σ)) (qs M σ ES r (so M.O t (M.abs m))):=by
 refine aA Tryz.func404 ?_
 refine eO.kz 0 _ _ rfl rfl (fun h0=>?_) (fun h0=>?_)
 ·exact .done (j0 (x:=t) (by simp[so,h0]) rfl)
 refine an 0 ?_
 refine .each (by kernel_rfl) ?_
 repeat' first
  |refine And.intro ?_ ?_
  |refine aa 0 ?_
  |refine aB [] (dO _ _ _) ?_
  |refine fj.mk M.hL ?_
 all_goals
  refine M.aLoad [_] hf fun m' hm=>?_
  refine aq (fun h2=>?_) (fun h2=>?_)
  ·have h2:(M.O.ld (M.abs m) t.c).1=0:=h2
   refine an 0 ?_
   exact .done (j0 (x:= { t with ended:=true,is:=true }) (by simp[so,h0,h2]) hm)
  ·have h2:¬(M.O.ld (M.abs m) t.c).1=0:=h2
   refine an 0 ?_
   exact .done (j0 (x:= { t with ended:=true,is:=false }) (by simp[so,h0,h2]) hm)
theorem QV{α:Type}{f:α→Hp}{l:List α}{j:Nat}(h:j<l.length):(l.flatMap f).Perm (f l[j]++(l.eraseIdx j).flatMap f):=by
 induction l generalizing j with
 |nil=>simp at h
 |cons x l ih=>
  cases j with
  |zero=>exact List.Perm.refl _
  |succ j=>
   rw[yA]
   have:=ih (j:=j) (by simpa using h)
   refine (List.Perm.append_left _ this).trans ?_
   simp only[List.getElem_cons_succ,List.eraseIdx_cons_succ,yA,← dN]
   exact List.Perm.append_right _ Pf
theorem aaj{α:Type}{f:α→Hp}{l:List α}{j:Nat}(h:j<l.length)(y:α):((l.set j y).flatMap f).Perm (f y++(l.eraseIdx j).flatMap f):=by
 have:=QV (f:=f) (l:=l.set j y) (j:=j) (by simpa using h)
 rw[List.getElem_set_self,Pc]at this
 exact this
set_option maxHeartbeats 4000000
def df(p:Int)(n:Nat):Nat:=if n<1 then 0 else (p % (n:Int)).toNat
theorem yZ{p:Int}{n:Nat}(h:0<n):df p n<n:=by
 unfold df
 rw[ah (by omega)]
 have h1:=JO p (show (n:Int)≠0 by omega)
 have h2:=J0 p (show (0:Int)<n by omega)
 omega
theorem TO{p:Int}{n:Nat}(h0:0<n)(hn:n≤1000000)(h:p.tmod n<0):IntKind.i64.wrap (p.tmod n+n)=((df p n:Nat):Int):=by
 have h1:=JO p (show (n:Int)≠0 by omega)
 have h2:=J0 p (show (0:Int)<n by omega)
 have e:= @Int.tmod_eq_emod p n
 unfold df
 rw[ah (by omega),IntKind.wrap_i64]
 split at e <;> omega
theorem TN{p:Int}{n:Nat}(h0:0<n)(h:¬p.tmod n<0):p.tmod n=((df p n:Nat):Int):=by
 have h1:=JO p (show (n:Int)≠0 by omega)
 have h2:=J0 p (show (0:Int)<n by omega)
 have e:= @Int.tmod_eq_emod p n
 unfold df
 rw[ah (by omega)]
 split at e <;> omega
theorem Sk{p:Int}{n:Nat}(h:(n:Int)<1):(0:Int)=((df p n:Nat):Int):=by
 unfold df
 rw[ag (by omega)];rfl
theorem Ec(p d:Int)(n:Nat)(σ:Hp)(hn:n≤1000000):ACalls Tryz.prog 70 [.agg [.int .i64 p,.int .i64 d],.int .i64 n] σ (aE (.int .i64 (df p n)) σ):=by
 refine aA Tryz.func70 ?_
 intro aG
 refine aq (fun c2=>?_) (fun c2=>?_)
 ·have c2:(↑n:Int)<1:=c2
  exact .drop 0 1 (.done ⟨aW (Sk (by assumption)),rfl⟩)
 ·have c2:¬((↑n:Int)<1):=c2
  refine aa 0 ?_
  refine iJ ?_
  refine aq (fun c3=>?_) (fun c3=>?_)
  ·have c3:p.tmod (↑n:Int)<0:=c3
   exact .drop 0 1 (.done ⟨aW (TO (by omega) hn (by assumption)),rfl⟩)
  ·have c3:¬(p.tmod (↑n:Int)<0):=c3
   exact .drop 0 1 (.done ⟨aW (TN (by omega) (by assumption)),rfl⟩)
theorem ah9(p d:Int)(n:Nat)(σ:Hp)(hn:n≤1000000):ACalls Tryz.prog 59 [.agg [.int .i64 p,.int .i64 d],.int .i64 n] σ (aE (.int .i64 (df p n)) σ):=by
 refine aA Tryz.func59 ?_
 intro aG
 refine aq (fun c2=>?_) (fun c2=>?_)
 ·have c2:(↑n:Int)<1:=c2
  exact .drop 0 1 (.done ⟨aW (Sk (by assumption)),rfl⟩)
 ·have c2:¬((↑n:Int)<1):=c2
  refine aa 0 ?_
  refine iJ ?_
  refine aq (fun c3=>?_) (fun c3=>?_)
  ·have c3:p.tmod (↑n:Int)<0:=c3
   exact .drop 0 1 (.done ⟨aW (TO (by omega) hn (by assumption)),rfl⟩)
  ·have c3:¬(p.tmod (↑n:Int)<0):=c3
   exact .drop 0 1 (.done ⟨aW (TN (by omega) (by assumption)),rfl⟩)
def jI(l:List Bool):List AV:=l.map AV.bool
theorem tC{dn:List Bool}{k:Nat}(h:k<dn.length){b:Bool}(hb:dn[k]=b):(jI dn)[0+((k:Int)).toNat*1]?=some (.bool b):=by
 simp[jI,h,hb]
theorem Vx{dn:List Bool}{k:Nat}(h:k<dn.length)(hd:dn[k]=false):dn.all id=false:=by
 cases ha:dn.all id with
 |false=>rfl
 |true=>
  have:=fp.1 ha _ (cD h)
  rw[hd]at this
  cases this
theorem Io(sv:AV)(u:Int)(b:Nat)(dn:List Bool)(σ:Hp)(hn:dn.length≤1000000):ACalls Tryz.prog 42 [.agg [sv,.ae b 0 dn.length 1,.int .i64 u]] ((b,jI dn)::σ) (aE (.bool (dn.all id)) ((b,jI dn)::σ)):=by
 refine aA Tryz.func42 ?_
 intro aG
 refine aa 0 ?_
 refine cj (S:=Nat) (fun s=>[(6,.ae b 0 dn.length 1),(7,.int .i64 dn.length),(8,.int .i64 s)]) (fun _=>(aG,[sv,.ae b 0 dn.length 1,.int .i64 u])::(b,jI dn)::σ) (fun s=>s≤dn.length∧(dn.take s).all id=true) (fun s=>dn.length-s) 0 ⟨⟨bK _,rfl⟩,⟨rfl,rfl,rfl,trivial⟩,rfl⟩ ?_
 rintro k g ⟨hk,cf⟩
 refine aq (fun h=>?_) (fun h=>?_)
 ·have h:(k:Int)<dn.length:=h
  have mQ:k<dn.length:=by omega
  refine aK ?_
  cases hd:dn[k] with
  |true=>
   refine aT 1 rfl (tC mQ hd) ?_
   refine aZ (k+1) ?_ ⟨mQ,?_⟩ ⟨rfl,rfl,bu (by omega),trivial⟩ (aJ rfl)
   ·show dn.length-(k+1)<dn.length-k;omega
   ·rw[fQ mQ,Ca,cf,hd];rfl
  |false=>
   refine aT 1 rfl (tC mQ hd) ?_
   exact .drop 0 1 (.done ⟨congrArg AV.bool (Vx mQ hd).symm,rfl⟩)
 ·have h:¬(k:Int)<dn.length:=h
  exact .drop 0 1 (.done ⟨congrArg AV.bool (by rw[← eZ (show dn.length≤k by omega)];exact cf.symm),rfl⟩)
def kx(l:List Int):List AV:=l.map (AV.int .i64)
def isNil:AV→Bool
 |.nilif=>true
 |_=>false
theorem adC(n:Nat):cz [.bool false] n=jI (List.replicate n false):=by
 unfold jI
 induction n with
 |zero=>rfl
 |succ n ih=>simp[cz,ih,List.replicate_succ]
theorem adB(n:Nat):cz [.int .i64 0] n=kx (List.replicate n 0):=by
 unfold kx
 induction n with
 |zero=>rfl
 |succ n ih=>simp[cz,ih,List.replicate_succ]
def td(L:List AV)(k:Nat):List Bool:=(L.take k).map isNil++List.replicate (L.length-k) false
theorem acz(L:List AV):td L 0=List.replicate L.length false:=by simp[td]
theorem KN(L:List AV)(k:Nat)(h:k≤L.length):(td L k).length=L.length:=by simp[td];omega
theorem UJ(L:List AV):td L L.length=L.map isNil:=by simp[td]
theorem UI(L:List AV)(k:Nat)(h:k<L.length):(td L k).set k (isNil L[k])=td L (k+1):=by
 unfold td
 rw[show L.length-k=(L.length-(k+1))+1 by omega,Pr,fQ h,cM]
 have hl:((L.take k).map isNil).length=k:=by simp;omega
 rw[Ki _ _ (by omega),hl,qT]
 simp
theorem Ba{L:List AV}{k:Nat}(h:k<L.length){x:AV}(hx:L[k]=x):L[0+((k:Int)).toNat*1]?=some x:=by
 rw[show 0+((k:Int)).toNat*1=k by omega,bc h,hx]
theorem tB{dn:List Bool}{k:Nat}(b:Bool)(h:k<dn.length):kn ⟨.bool,1,1,[.bool false]⟩ (jI dn) (0+((k:Int)).toNat*1) (.bool b)=some (jI (dn.set k b)):=by
 have e:0+((k:Int)).toNat*1=k:=by omega
 have h2:Nat.ble (k+1) (jI dn).length=true:=Nat.ble_eq_true_of_le (by simp[jI];omega)
 rw[e]
 show (match Nat.beq 1 1,Nat.ble (k+1) (jI dn).length with | true,true=>some (e8 (jI dn) k [.bool b]) | _,_=>none)=_
 rw[h2]
 show some ((jI dn).set k (.bool b))=_
 rw[show (jI dn).set k (.bool b)=jI (dn.set k b) by simp[jI,List.map_set]]
theorem xr{l:List Int}{k:Nat}(h:k<l.length):(kx l)[0+((k:Int)).toNat*1]?=some (.int .i64 (l.getD k 0)):=by
 simp[kx,h,List.getD]
theorem xq{l:List Int}{k:Nat}(x:Int)(h:k<l.length):kn ⟨.int .i64,1,8,[.int .i64 0]⟩ (kx l) (0+((k:Int)).toNat*1) (.int .i64 x)=some (kx (l.set k x)):=by
 have e:0+((k:Int)).toNat*1=k:=by omega
 have h2:Nat.ble (k+1) (kx l).length=true:=Nat.ble_eq_true_of_le (by simp[kx];omega)
 rw[e]
 show (match Nat.beq 1 1,Nat.ble (k+1) (kx l).length with | true,true=>some (e8 (kx l) k [.int .i64 x]) | _,_=>none)=_
 rw[h2]
 show some ((kx l).set k (.int .i64 x))=_
 rw[show (kx l).set k (.int .i64 x)=kx (l.set k x) by simp[kx,List.map_set]]
structure ju(A:Type) where
 a:A
 st:List Int
 dn:List Bool
 us:Nat
def iF{A:Type}(step:A→Nat→Int→A×Bool)(tell:A→Nat→A)(n:Nat)(x:ju A)(p:Int×Int×Unit):ju A:=
 if x.dn.getD (df p.1 n) true then ⟨tell x.a (x.us+1),x.st,x.dn,x.us+1⟩
 else ⟨tell (step x.a (df p.1 n) p.2.1).1 (x.us+1),x.st.set (df p.1 n) (wr (x.st.getD (df p.1 n) 0+1)),x.dn.set (df p.1 n) (step x.a (df p.1 n) p.2.1).2,x.us+1⟩
def jE{A:Type}(step:A→Nat→Int→A×Bool)(tell:A→Nat→A)(n:Nat):List (Int×Int×Unit)→ju A→ju A
 | [],x=>x
 |p::ps,x=>if x.dn.all id then x else jE step tell n ps (iF step tell n x p)
structure AWorld where
 A:Type
 S:Type
 abs:S→A
 B:S→Hp
 L:List AV
 mt:TypeId
 mp:Nat
 step:A→Nat→Int→A×Bool
 tell:A→Nat→A
 free:A→Prop
 keeps:∀a i d,free a→i<L.length→free (step a i d).1
 told:∀a k,free a→free (tell a k)
 mach : ∀ i (h : i < L.length), L[i] = .nilif ∨ ∃ t r, L[i] = .iface t (.ptr r 0) ∧ ∃ g, Meth Tryz.prog t "Step" g ∧
  ∀(s:S) (d:Int) (σ:Hp),free (abs s)→ACalls Tryz.prog g [.ptr r 0,.iface mt (.ptr mp 0),.int .i64 d] (B s++σ) (fun x σ'=>∃s',abs s'=(step (abs s) i d).1∧x=.bool (step (abs s) i d).2∧σ'=B s'++σ)
abbrev AWorld.mv(W:AWorld):AV:=.iface W.mt (.ptr W.mp 0)
def AWorld.init(W:AWorld)(a:W.A):ju W.A:=⟨a,List.replicate W.L.length 0,W.L.map isNil,0⟩
theorem AWorld.aStep (W : AWorld) (fr : Hp) {s : W.S} {σ : Hp} {K : AV → Hp → Prop} {i r : Nat} {t : TypeId} {g : FuncId} {d : Int} (hMe : Meth Tryz.prog t "Step" g)
  (gM:∀(s:W.S) (d:Int) (σ:Hp),W.free (W.abs s)→ACalls Tryz.prog g [.ptr r 0,.iface W.mt (.ptr W.mp 0),.int .i64 d] (W.B s++σ) (fun x σ'=>∃s',W.abs s'=(W.step (W.abs s) i d).1∧x=.bool (W.step (W.abs s) i d).2∧σ'=W.B s'++σ))
  (hf : W.free (W.abs s)) (k : ∀ s', W.abs s' = (W.step (W.abs s) i d).1 → K (.bool (W.step (W.abs s) i d).2) (fr ++ (W.B s' ++ σ))) : InvAt Tryz.prog t "Step" fun g => CallAt Tryz.prog g K [.ptr r 0, W.mv, .int .i64 d] (fr ++ (W.B s ++ σ)) := by
 refine⟨g,hMe,.perm _ (tp fr (W.B s) σ) (gM s d (fr++σ) hf) ?_⟩
 rintro r σ' ⟨s',h3,rfl,rfl⟩
 exact⟨_,(tp fr (W.B s') σ).symm,k s' h3⟩
def AWorld.run(W:AWorld)(af:List (Int×Int×Unit))(a:W.A):ju W.A:=jE W.step W.tell W.L.length af (W.init a)
def LR(W:AWorld)(af:List (Int×Int×Unit))(a:W.A)(fr σ:Hp):AV→Hp→Prop:=fun x σ'=>∃s',W.abs s'=(W.run af a).a∧x=.agg [.ai (.int .i64) (W.run af a).st,.ai .bool (W.run af a).dn,.int .i64 (W.run af a).us]∧σ'=fr++(W.B s'++σ)
theorem nq{b off len es:Nat}{e:Sh}{l:List e.T}{x1 x2 x3 y1 y2 y3:AV}(h1:eI b off len es e l x1 y1)(h2:eI b off len es e l x2 y2)(h3:eI b off len es e l x3 y3)(l1:y1.leaf=true)(l2:y2.leaf=true)(l3:y3.leaf=true):eI b off len es e l (.agg [x1,x2,x3]) (.agg [y1,y2,y3]):=by
 refine .agg _ _ rfl (fun i y hy=>?_) (fun i x y hx hy=>?_)
 ·match i,hy with
  | 0,hy=>cases hy;exact l1
  | 1,hy=>cases hy;exact l2
  | 2,hy=>cases hy;exact l3
  |i+3,hy=>cases hy
 ·match i,hx,hy with
  | 0,hx,hy=>cases hx;cases hy;exact h1
  | 1,hx,hy=>cases hx;cases hy;exact h2
  | 2,hx,hy=>cases hx;cases hy;exact h3
  |i+3,hx,hy=>cases hx
theorem Su:∀(ws:List Int),kx ws=ws.flatMap (Sh.cells (.int .i64))
 | []=>rfl
 |z::ws=>congrArg (AV.int .i64 z :: ·) (Su ws)
theorem Tw:∀(ws:List Bool),jI ws=ws.flatMap (Sh.cells .bool)
 | []=>rfl
 |z::ws=>congrArg (AV.bool z :: ·) (Tw ws)
theorem xt{l:List Int}{n:Nat}(h:l.length=n):((kx l).drop 0).take (n*1)=l.flatMap (Sh.cells (.int .i64)):=by
 rw[iB,← Su]
 exact List.take_of_length_le (by simp[kx,h])
theorem xC{l:List Bool}{n:Nat}(h:l.length=n):((jI l).drop 0).take (n*1)=l.flatMap (Sh.cells .bool):=by
 rw[iB,← Tw]
 exact List.take_of_length_le (by simp[jI,h])
def we(W:AWorld)(af:List (Int×Int×Unit))(a0:W.A)(x:W.S×List Int×List Bool×Nat):Prop:=
 x.2.2.2≤af.length∧x.2.1.length=W.L.length∧x.2.2.1.length=W.L.length∧(∀i (h:i<W.L.length),W.L[i]=.nilif→x.2.2.1[i]?=some true)∧W.free (W.abs x.1)∧jE W.step W.tell W.L.length (af.drop x.2.2.2) ⟨W.abs x.1,x.2.1,x.2.2.1,x.2.2.2⟩=W.run af a0
theorem aed{A:Type}{step:A→Nat→Int→A×Bool}{tell:A→Nat→A}{n:Nat}(l:List (Int×Int×Unit)){x:ju A}(h:x.dn.all id=true):jE step tell n l x=x:=by
 cases l with
 |nil=>rfl
 |cons p ps=>rw[jE,ag h]
theorem Tl{A:Type}{step:A→Nat→Int→A×Bool}{tell:A→Nat→A}{n:Nat}(p:Int×Int×Unit)(ps:List (Int×Int×Unit)){x:ju A}(h:x.dn.all id=false):jE step tell n (p::ps) x=jE step tell n ps (iF step tell n x p):=by
 rw[jE,ah (by rw[h];decide)]
theorem xA{W:AWorld}{af:List (Int×Int×Unit)}{a0:W.A}{s:W.S}{st:List Int}{dn:List Bool}{us:Nat}(h:we W af a0 (s,st,dn,us))(he:us=af.length∨dn.all id=true):W.run af a0=⟨W.abs s,st,dn,us⟩:=by
 obtain⟨_,_,_,_,_,hg⟩:=h
 rw[← hg]
 rcases he with he | he
 ·show jE _ _ _ (af.drop us) _=_
  rw[he,List.drop_length];rfl
 ·exact aed _ he
theorem UA{dn:List Bool}{i:Nat}{b d:Bool}(h:i<dn.length)(hd:dn[i]=b):dn.getD i d=b:=by
 rw[aR,bc h,hd];rfl
theorem G7{W:AWorld}{af:List (Int×Int×Unit)}{a0:W.A}{s:W.S}{st:List Int}{dn:List Bool}{us i:Nat}{pw pd:Int}{pu:Unit}(h:we W af a0 (s,st,dn,us))(l0:∀a k,W.tell a k=a)(cf:dn.all id=false)(fN:us<af.length)(eT:(pw,pd,pu)=af[us])(hi:i=df pw W.L.length)(eg:i<dn.length)(hd:dn[i]=true):we W af a0 (s,st,dn,us+1):=by
 obtain⟨h1,h2,h3,h4,h5,hg⟩:=h
 refine⟨fN,h2,h3,h4,h5,?_⟩
 rw[← hg]
 show jE _ _ _ (af.drop (us+1)) _=jE _ _ _ (af.drop us) _
 rw[Kb fN,← eT,Tl _ _ cf]
 unfold iF
 dsimp only
 rw[← hi,ag (UA eg hd),l0]
theorem xm{W:AWorld}{af:List (Int×Int×Unit)}{a0:W.A}{s s':W.S}{st:List Int}{dn:List Bool}{us i:Nat}{pw pd:Int}{pu:Unit}(h:we W af a0 (s,st,dn,us))(l0:∀a k,W.tell a k=a)(cf:dn.all id=false)(fN:us<af.length)(eT:(pw,pd,pu)=af[us])(hi:i=df pw W.L.length)(eg:i<W.L.length){WQ:i<dn.length}(hd:dn[i]=false)(dV:W.abs s'=(W.step (W.abs s) i pd).1):
  we W af a0 (s',st.set i (wr (st.getD i 0+1)),dn.set i (W.step (W.abs s) i pd).2,us+1):=by
 obtain⟨h1,h2,h3,h4,h5,hg⟩:=h
 refine⟨fN,(ck ..).trans h2,(ck ..).trans h3,?_,?_,?_⟩
 ·intro k hk hm
  have:=h4 k hk hm
  show (dn.set i _)[k]?=some true
  rw[dY]
  split
  ·rename_i he
   subst he
   rw[bc WQ,hd]at this
   cases this
  ·exact this
 ·show W.free (W.abs s')
  rw[dV];exact W.keeps _ _ _ h5 eg
 ·rw[← hg]
  show jE _ _ _ (af.drop (us+1)) _=jE _ _ _ (af.drop us) _
  rw[Kb fN,← eT,Tl _ _ cf]
  unfold iF
  dsimp only
  rw[← hi,ah (by rw[UA WQ hd];decide),l0,← dV]
theorem ahj(W:AWorld)(lb:Nat)(af:List (Int×Int×Unit))(s0:W.S)(σ:Hp)(hn:W.L.length≤100000)(hs:af.length≤100000)(hf:W.free (W.abs s0))(l0:∀a k,W.tell a k=a):
  ACalls Tryz.prog 140 [W.mv,.ae lb 0 W.L.length 1,.ai (.field (.int .i64) (.field (.int .i64) .nil)) af,.iH] ((lb,W.L)::(W.B s0++σ)) (LR W af (W.abs s0) [(lb,W.L)] σ):=by
 obtain⟨a0,s7⟩:∃a0,a0=W.abs s0:=⟨_,rfl⟩
 rw[← s7]
 obtain⟨z,sT⟩:∃z,z=s0:=⟨_,rfl⟩
 subst sT
 refine aA Tryz.func140 ?_
 intro aG
 refine .meet (S:=Nat×Nat×Nat) (fun s=>[(0,W.mv),(1,.ae lb 0 W.L.length 1),(2,.ai (.field (.int .i64) (.field (.int .i64) .nil)) af),(3,.iH),(8,.ptr aG 0),(9,.ptr s.1 0)])
  (fun s=>(s.1,[.ae s.2.1 0 W.L.length 1,.ae s.2.2 0 W.L.length 1,.int .i64 0])::(s.2.1,cz [.int .i64 0] W.L.length)::(s.2.2,cz [.bool false] W.L.length)::(aG,[.aj,.aj,.int .i64 0])::(lb,W.L)::(W.B z++σ)) (by kernel_rfl) ?_ ?_
 ·repeat' first
   |exact cS.mk (_,_,_) ⟨rfl,rfl,rfl,rfl,rfl,rfl,trivial⟩ (aJ rfl)
   |exact cS.mk (_,_,_) ⟨rfl,rfl,rfl,rfl,rfl,rfl,trivial⟩ (.pull [2,2,1] (aJ rfl))
   |exact cS.mk (_,_,_) ⟨rfl,rfl,rfl,rfl,rfl,rfl,trivial⟩ (.pull [2,1,2] (aJ rfl))
   |exact cS.mk (_,_,_) ⟨rfl,rfl,rfl,rfl,rfl,rfl,trivial⟩ (.pull [2,2,0] (aJ rfl))
   |exact cS.mk (_,_,_) ⟨rfl,rfl,rfl,rfl,rfl,rfl,trivial⟩ (.pull [2,1,1] (aJ rfl))
   |exact cS.mk (_,_,_) ⟨rfl,rfl,rfl,rfl,rfl,rfl,trivial⟩ (.pull [2,1,0] (aJ rfl))
   |refine And.intro ?_ ?_
   |refine aU ?_
   |refine an 0 ?_
   |refine an 1 ?_
   |refine an 2 ?_
   |intro b
 rintro⟨br,ba,bd⟩ g
 refine aB [] (dO _ _ _) ?_
 obtain⟨us,gi⟩:∃us:Nat,us=0:=⟨_,rfl⟩
 obtain⟨st,ao⟩:∃st,st=(List.replicate W.L.length 0:List Int):=⟨_,rfl⟩
 refine cj (S:=Nat) (fun s=>[(0,W.mv),(1,.ae lb 0 W.L.length 1),(2,.ai (.field (.int .i64) (.field (.int .i64) .nil)) af),(3,.iH),(8,.ptr aG 0),(9,.ptr br 0),(23,.ae lb 0 W.L.length 1),(24,.int .i64 W.L.length),(25,.int .i64 s)])
  (fun s=>(br,[.ae ba 0 W.L.length 1,.ae bd 0 W.L.length 1,.int .i64 us])::(ba,kx st)::(bd,jI (td W.L s))::(aG,[.aj,.aj,.int .i64 0])::(lb,W.L)::(W.B z++σ)) (fun s=>s≤W.L.length) (fun s=>W.L.length-s) 0 ⟨bK _,⟨rfl,rfl,rfl,rfl,rfl,rfl,rfl,rfl,rfl,trivial⟩,by rw[acz,← adC,ao,← adB,gi];rfl⟩ ?_
 intro k g hk
 have hk:k≤W.L.length:=hk
 refine aq (fun ab=>?_) (fun ay=>?_)
 ·have ab:(k:Int)<W.L.length:=ab
  have ab:k<W.L.length:=by omega
  refine aK ?_
  rcases W.mach k ab with hm | ⟨t,r,hm,_⟩
  ·refine eO.mk 4 _ (AV.nilif) rfl (Ba ab hm) ?_
   refine .sched [] (upto [] 7 0) (by kernel_rfl) ?_
   refine aa 0 ?_
   refine aK ?_
   refine cU 2 rfl (tB _ (by rw[KN _ _ hk];omega)) ?_
   refine aZ (k+1) ?_ ab ⟨rfl,rfl,rfl,rfl,rfl,rfl,rfl,rfl,bu (by omega),trivial⟩ (aJ ?_)
   ·show W.L.length-(k+1)<W.L.length-k;omega
   ·rw[← UI _ _ ab,hm];rfl
  ·refine eO.mk 4 _ (AV.iface t (.ptr r 0)) rfl (Ba ab hm) ?_
   refine .sched [] (upto [] 7 0) (by kernel_rfl) ?_
   refine aa 0 ?_
   refine aK ?_
   refine cU 2 rfl (tB _ (by rw[KN _ _ hk];omega)) ?_
   refine aZ (k+1) ?_ ab ⟨rfl,rfl,rfl,rfl,rfl,rfl,rfl,rfl,bu (by omega),trivial⟩ (aJ ?_)
   ·show W.L.length-(k+1)<W.L.length-k;omega
   ·rw[← UI _ _ ab,hm];rfl
 ·have ay:¬(k:Int)<W.L.length:=ay
  obtain rfl:k=W.L.length:=by omega
  obtain⟨dn,mj⟩:∃dn,dn=td W.L W.L.length:=⟨_,rfl⟩
  rw[← mj]
  have ek:dn.length=W.L.length:=by rw[mj];exact KN _ _ (aM _)
  have cH:st.length=W.L.length:=by rw[ao,fZ]
  have rJ:∀i (h:i<W.L.length),W.L[i]=.nilif→dn[i]?=some true:=by
   intro i h hm
   rw[mj,UJ,eU,bc h,hm];rfl
  obtain⟨s,eD⟩:∃s,s=z:=⟨_,rfl⟩
  subst eD
  have hI:we W af a0 (s,st,dn,us):=by
   exact⟨by show us≤_;omega,cH,ek,rJ,hf,by rw[gi,mj,UJ,ao,s7];rfl⟩
  have ⟨gi,cH,ek,rJ,hf,Ff⟩:=hI
  have gi:us≤af.length:=gi
  have cH:st.length=W.L.length:=cH
  have ek:dn.length=W.L.length:=ek
  have hF:=fun σ=>Io (.ae ba 0 W.L.length 1) us bd dn σ (by omega)
  rw[ek]at hF
  refine aa 0 ?_
  refine aq (fun c1=>?_) (fun c1=>?_)
  ·have c1:(↑us:Int)=(↑af.length:Int):=c1
   have hE:=xA hI (.inl (by show us=_;omega))
   refine aa 0 ?_
   refine an 3 ?_
   refine aa 3 ?_
   refine .cI 1 ba 0 W.L.length 1 _ (.int .i64) st rfl (xt cH) ⟨cH,rfl,by decide⟩ (nq .here (.refl _) (.refl _) rfl rfl rfl) ?_
   refine .cI 1 bd 0 W.L.length 1 _ .bool dn rfl (xC ek) ⟨ek,rfl,by decide⟩ (nq (.refl _) .here (.refl _) rfl rfl rfl) ?_
   exact .drop 0 2 (.done ⟨s,by rw[hE],by rw[hE],rfl⟩)
  ·have c1:¬((↑us:Int)=(↑af.length:Int)):=c1
   refine aa 0 ?_
   refine aB [2] (hF _) ?_
   cases cf:dn.all id with
   |true=>
    have hE:=xA hI (.inr cf)
    refine aa 1 ?_
    refine an 3 ?_
    refine aa 3 ?_
    refine .cI 2 ba 0 W.L.length 1 _ (.int .i64) st rfl (xt cH) ⟨cH,rfl,by decide⟩ (nq .here (.refl _) (.refl _) rfl rfl rfl) ?_
    refine .cI 0 bd 0 W.L.length 1 _ .bool dn rfl (xC ek) ⟨ek,rfl,by decide⟩ (nq (.refl _) .here (.refl _) rfl rfl rfl) ?_
    exact .drop 0 2 (.done ⟨s,by rw[hE],by rw[hE],rfl⟩)
   |false=>
    refine aa 1 ?_
    refine aH.mk rfl ?_
    have fN:us<af.length:=by omega
    have ma:AV.int .i64 (IntKind.i64.wrap ((us:Int)+1))=AV.int .i64 ((us+1:Nat):Int):=bu (by omega)
    obtain⟨pk,eT⟩:∃pk,pk=af[us]:=⟨_,rfl⟩
    obtain⟨pw,pd,pu⟩:=pk
    have fY:0<W.L.length:=by
     rcases uQ W.L.length with h0 | h0
     ·rw[iS.1 (ek.trans h0)]at cf;cases cf
     ·exact h0
    refine cg.mk (pw,pd,pu) (by omega) ((get_some fN).trans (congrArg some eT.symm)) ?_
    obtain⟨i,hi⟩:∃i,i=df pw W.L.length:=⟨_,rfl⟩
    have eg:i<W.L.length:=by rw[hi];exact yZ fY
    have sF:=fun σ=>Ec pw pd W.L.length σ (by omega)
    rw[← hi]at sF
    intro bp
    refine an 0 ?_
    refine aa 0 ?_
    refine aB [] (sF _) ?_
    refine aa 2 ?_
    refine aK ?_
    cases hd:dn[i] with
    |true=>
     refine aT 1 rfl (tC (by omega) hd) ?_
     refine aa 2 ?_
     refine an 2 ?_
     refine .loop (S:=W.S×List Int×List Bool×Nat) (fun _=>0) (fun _=>[(0,W.mv),(1,.ae lb 0 W.L.length 1),(2,.ai (.field (.int .i64) (.field (.int .i64) .nil)) af),(3,.iH),(8,.ptr aG 0),(9,.ptr br 0)]) (fun x=>(br,[.ae ba 0 W.L.length 1,.ae bd 0 W.L.length 1,.int .i64 x.2.2.2])::(ba,kx x.2.1)::(bd,jI x.2.2.1)::(aG,[.aj,.aj,.int .i64 0])::(lb,W.L)::(W.B x.1++σ)) (we W af a0) (fun x=>af.length-x.2.2.2) (s,st,dn,us+1) ⟨rfl,(G7 hI l0 cf fN eT hi (by omega) hd),⟨rfl,rfl,rfl,rfl,rfl,rfl,trivial⟩,.drop 0 1 (.pull [2,2,0] (aJ ?_))⟩ ?_
     ·show _=(br,[AV.ae ba 0 W.L.length 1,AV.ae bd 0 W.L.length 1,AV.int .i64 ((us+1:Nat):Int)])::_
      rw[← ma]
      rfl
     rintro⟨s,st,dn,us⟩ g hI
     have ⟨gi,cH,ek,rJ,hf,Ff⟩:=hI
     have gi:us≤af.length:=gi
     have cH:st.length=W.L.length:=cH
     have ek:dn.length=W.L.length:=ek
     have hF:=fun σ=>Io (.ae ba 0 W.L.length 1) us bd dn σ (by omega)
     rw[ek]at hF
     refine aa 0 ?_
     refine aq (fun c1=>?_) (fun c1=>?_)
     ·have c1:(↑us:Int)=(↑af.length:Int):=c1
      have hE:=xA hI (.inl (by show us=_;omega))
      refine aa 0 ?_
      refine an 3 ?_
      refine aa 3 ?_
      refine .cI 1 ba 0 W.L.length 1 _ (.int .i64) st rfl (xt cH) ⟨cH,rfl,by decide⟩ (nq .here (.refl _) (.refl _) rfl rfl rfl) ?_
      refine .cI 1 bd 0 W.L.length 1 _ .bool dn rfl (xC ek) ⟨ek,rfl,by decide⟩ (nq (.refl _) .here (.refl _) rfl rfl rfl) ?_
      exact .drop 0 2 (.done ⟨s,by rw[hE],by rw[hE],rfl⟩)
     ·have c1:¬((↑us:Int)=(↑af.length:Int)):=c1
      refine aa 0 ?_
      refine aB [2] (hF _) ?_
      cases cf:dn.all id with
      |true=>
       have hE:=xA hI (.inr cf)
       refine aa 1 ?_
       refine an 3 ?_
       refine aa 3 ?_
       refine .cI 2 ba 0 W.L.length 1 _ (.int .i64) st rfl (xt cH) ⟨cH,rfl,by decide⟩ (nq .here (.refl _) (.refl _) rfl rfl rfl) ?_
       refine .cI 0 bd 0 W.L.length 1 _ .bool dn rfl (xC ek) ⟨ek,rfl,by decide⟩ (nq (.refl _) .here (.refl _) rfl rfl rfl) ?_
       exact .drop 0 2 (.done ⟨s,by rw[hE],by rw[hE],rfl⟩)
      |false=>
       refine aa 1 ?_
       refine aH.mk rfl ?_
       have fN:us<af.length:=by omega
       have ma:AV.int .i64 (IntKind.i64.wrap ((us:Int)+1))=AV.int .i64 ((us+1:Nat):Int):=bu (by omega)
       obtain⟨pk,eT⟩:∃pk,pk=af[us]:=⟨_,rfl⟩
       obtain⟨pw,pd,pu⟩:=pk
       have fY:0<W.L.length:=by
        rcases uQ W.L.length with h0 | h0
        ·rw[iS.1 (ek.trans h0)]at cf;cases cf
        ·exact h0
       refine cg.mk (pw,pd,pu) (by omega) ((get_some fN).trans (congrArg some eT.symm)) ?_
       obtain⟨i,hi⟩:∃i,i=df pw W.L.length:=⟨_,rfl⟩
       have eg:i<W.L.length:=by rw[hi];exact yZ fY
       have sF:=fun σ=>Ec pw pd W.L.length σ (by omega)
       rw[← hi]at sF
       intro bp
       refine an 0 ?_
       refine aa 0 ?_
       refine aB [] (sF _) ?_
       refine aa 2 ?_
       refine aK ?_
       cases hd:dn[i] with
       |true=>
        refine aT 1 rfl (tC (by omega) hd) ?_
        refine aa 2 ?_
        refine an 2 ?_
        refine .mk (s,st,dn,us+1) rfl (by show af.length-(us+1)<af.length-us;omega) (G7 hI l0 cf fN eT hi (by omega) hd) ⟨rfl,rfl,rfl,rfl,rfl,rfl,trivial⟩ (.drop 0 1 (.pull [2,2,0] (aJ ?_)))
        show _=(br,[AV.ae ba 0 W.L.length 1,AV.ae bd 0 W.L.length 1,AV.int .i64 ((us+1:Nat):Int)])::_
        rw[← ma]
        rfl
       |false=>
        refine aT 1 rfl (tC (by omega) hd) ?_
        rcases W.mach i eg with hm | ⟨t,r,hm,gS,hMe,gM⟩
        ·have:=rJ i eg hm
         rw[bc (by show i<dn.length;omega)]at this
         exact absurd (hd.symm.trans (Option.some.inj this)) (by decide)
        refine .sched [] (.one 0 false (.one 2 false (.one 3 false (.one 4 false (.one 5 false (.one 6 false (.one 7 false (.one 8 false (.one 9 false (.alt 1 (.one 10 false (.one 11 false (.one 12 false .stop))) (.one 10 false (.one 1 false (.one 11 false (.one 12 false .stop)))))))))))))) (by kernel_rfl) ?_
        refine aK ?_
        refine eO.mk 5 _ (AV.iface t (.ptr r 0)) rfl (Ba eg hm) ?_
        refine aa 0 ?_
        refine And.intro ?_ ?_
        ·refine aa 2 ?_
         refine W.aStep [_,_,_,_,_,_] hMe gM hf fun s' dV=>?_
         refine aK ?_
         refine cU 1 rfl (tB _ (by omega)) ?_
         refine aa 2 ?_
         refine aK ?_
         refine aT 3 rfl (xr (by omega)) ?_
         refine aK ?_
         refine cU 3 rfl (xq _ (by omega)) ?_
         refine aa 2 ?_
         refine an 2 ?_
         refine .mk (s',(st.set i (wr (st.getD i 0+1))),(dn.set i (W.step (W.abs s) i pd).2),us+1) rfl (by show af.length-(us+1)<af.length-us;omega) (xm hI l0 cf fN eT hi eg hd dV) ⟨rfl,rfl,rfl,rfl,rfl,rfl,trivial⟩ (.drop 0 1 (.pull [2,2,0] (aJ ?_)))
         show _=(br,[AV.ae ba 0 W.L.length 1,AV.ae bd 0 W.L.length 1,AV.int .i64 ((us+1:Nat):Int)])::_
         rw[← ma]
         rfl
        ·refine W.aStep [_,_,_,_,_,_] hMe gM hf fun s' dV=>?_
         refine aa 2 ?_
         refine aK ?_
         refine cU 1 rfl (tB _ (by omega)) ?_
         refine aa 2 ?_
         refine aK ?_
         refine aT 3 rfl (xr (by omega)) ?_
         refine aK ?_
         refine cU 3 rfl (xq _ (by omega)) ?_
         refine aa 2 ?_
         refine an 2 ?_
         refine .mk (s',(st.set i (wr (st.getD i 0+1))),(dn.set i (W.step (W.abs s) i pd).2),us+1) rfl (by show af.length-(us+1)<af.length-us;omega) (xm hI l0 cf fN eT hi eg hd dV) ⟨rfl,rfl,rfl,rfl,rfl,rfl,trivial⟩ (.drop 0 1 (.pull [2,2,0] (aJ ?_)))
         show _=(br,[AV.ae ba 0 W.L.length 1,AV.ae bd 0 W.L.length 1,AV.int .i64 ((us+1:Nat):Int)])::_
         rw[← ma]
         rfl
    |false=>
     refine aT 1 rfl (tC (by omega) hd) ?_
     rcases W.mach i eg with hm | ⟨t,r,hm,gS,hMe,gM⟩
     ·have:=rJ i eg hm
      rw[bc (by show i<dn.length;omega)]at this
      exact absurd (hd.symm.trans (Option.some.inj this)) (by decide)
     refine .sched [] (.one 0 false (.one 2 false (.one 3 false (.one 4 false (.one 5 false (.one 6 false (.one 7 false (.one 8 false (.one 9 false (.alt 1 (.one 10 false (.one 11 false (.one 12 false .stop))) (.one 10 false (.one 1 false (.one 11 false (.one 12 false .stop)))))))))))))) (by kernel_rfl) ?_
     refine aK ?_
     refine eO.mk 5 _ (AV.iface t (.ptr r 0)) rfl (Ba eg hm) ?_
     refine aa 0 ?_
     refine And.intro ?_ ?_
     ·refine aa 2 ?_
      refine W.aStep [_,_,_,_,_,_] hMe gM hf fun s' dV=>?_
      refine aK ?_
      refine cU 1 rfl (tB _ (by omega)) ?_
      refine aa 2 ?_
      refine aK ?_
      refine aT 3 rfl (xr (by omega)) ?_
      refine aK ?_
      refine cU 3 rfl (xq _ (by omega)) ?_
      refine aa 2 ?_
      refine an 2 ?_
      refine .loop (S:=W.S×List Int×List Bool×Nat) (fun _=>0) (fun _=>[(0,W.mv),(1,.ae lb 0 W.L.length 1),(2,.ai (.field (.int .i64) (.field (.int .i64) .nil)) af),(3,.iH),(8,.ptr aG 0),(9,.ptr br 0)]) (fun x=>(br,[.ae ba 0 W.L.length 1,.ae bd 0 W.L.length 1,.int .i64 x.2.2.2])::(ba,kx x.2.1)::(bd,jI x.2.2.1)::(aG,[.aj,.aj,.int .i64 0])::(lb,W.L)::(W.B x.1++σ)) (we W af a0) (fun x=>af.length-x.2.2.2) (s',(st.set i (wr (st.getD i 0+1))),(dn.set i (W.step (W.abs s) i pd).2),us+1) ⟨rfl,(xm hI l0 cf fN eT hi eg hd dV),⟨rfl,rfl,rfl,rfl,rfl,rfl,trivial⟩,.drop 0 1 (.pull [2,2,0] (aJ ?_))⟩ ?_
      ·show _=(br,[AV.ae ba 0 W.L.length 1,AV.ae bd 0 W.L.length 1,AV.int .i64 ((us+1:Nat):Int)])::_
       rw[← ma]
       rfl
      rintro⟨s,st,dn,us⟩ g hI
      have ⟨gi,cH,ek,rJ,hf,Ff⟩:=hI
      have gi:us≤af.length:=gi
      have cH:st.length=W.L.length:=cH
      have ek:dn.length=W.L.length:=ek
      have hF:=fun σ=>Io (.ae ba 0 W.L.length 1) us bd dn σ (by omega)
      rw[ek]at hF
      refine aa 0 ?_
      refine aq (fun c1=>?_) (fun c1=>?_)
      ·have c1:(↑us:Int)=(↑af.length:Int):=c1
       have hE:=xA hI (.inl (by show us=_;omega))
       refine aa 0 ?_
       refine an 3 ?_
       refine aa 3 ?_
       refine .cI 1 ba 0 W.L.length 1 _ (.int .i64) st rfl (xt cH) ⟨cH,rfl,by decide⟩ (nq .here (.refl _) (.refl _) rfl rfl rfl) ?_
       refine .cI 1 bd 0 W.L.length 1 _ .bool dn rfl (xC ek) ⟨ek,rfl,by decide⟩ (nq (.refl _) .here (.refl _) rfl rfl rfl) ?_
       exact .drop 0 2 (.done ⟨s,by rw[hE],by rw[hE],rfl⟩)
      ·have c1:¬((↑us:Int)=(↑af.length:Int)):=c1
       refine aa 0 ?_
       refine aB [2] (hF _) ?_
       cases cf:dn.all id with
       |true=>
        have hE:=xA hI (.inr cf)
        refine aa 1 ?_
        refine an 3 ?_
        refine aa 3 ?_
        refine .cI 2 ba 0 W.L.length 1 _ (.int .i64) st rfl (xt cH) ⟨cH,rfl,by decide⟩ (nq .here (.refl _) (.refl _) rfl rfl rfl) ?_
        refine .cI 0 bd 0 W.L.length 1 _ .bool dn rfl (xC ek) ⟨ek,rfl,by decide⟩ (nq (.refl _) .here (.refl _) rfl rfl rfl) ?_
        exact .drop 0 2 (.done ⟨s,by rw[hE],by rw[hE],rfl⟩)
       |false=>
        refine aa 1 ?_
        refine aH.mk rfl ?_
        have fN:us<af.length:=by omega
        have ma:AV.int .i64 (IntKind.i64.wrap ((us:Int)+1))=AV.int .i64 ((us+1:Nat):Int):=bu (by omega)
        obtain⟨pk,eT⟩:∃pk,pk=af[us]:=⟨_,rfl⟩
        obtain⟨pw,pd,pu⟩:=pk
        have fY:0<W.L.length:=by
         rcases uQ W.L.length with h0 | h0
         ·rw[iS.1 (ek.trans h0)]at cf;cases cf
         ·exact h0
        refine cg.mk (pw,pd,pu) (by omega) ((get_some fN).trans (congrArg some eT.symm)) ?_
        obtain⟨i,hi⟩:∃i,i=df pw W.L.length:=⟨_,rfl⟩
        have eg:i<W.L.length:=by rw[hi];exact yZ fY
        have sF:=fun σ=>Ec pw pd W.L.length σ (by omega)
        rw[← hi]at sF
        intro bp
        refine an 0 ?_
        refine aa 0 ?_
        refine aB [] (sF _) ?_
        refine aa 2 ?_
        refine aK ?_
        cases hd:dn[i] with
        |true=>
         refine aT 1 rfl (tC (by omega) hd) ?_
         refine aa 2 ?_
         refine an 2 ?_
         refine .mk (s,st,dn,us+1) rfl (by show af.length-(us+1)<af.length-us;omega) (G7 hI l0 cf fN eT hi (by omega) hd) ⟨rfl,rfl,rfl,rfl,rfl,rfl,trivial⟩ (.drop 0 1 (.pull [2,2,0] (aJ ?_)))
         show _=(br,[AV.ae ba 0 W.L.length 1,AV.ae bd 0 W.L.length 1,AV.int .i64 ((us+1:Nat):Int)])::_
         rw[← ma]
         rfl
        |false=>
         refine aT 1 rfl (tC (by omega) hd) ?_
         rcases W.mach i eg with hm | ⟨t,r,hm,gS,hMe,gM⟩
         ·have:=rJ i eg hm
          rw[bc (by show i<dn.length;omega)]at this
          exact absurd (hd.symm.trans (Option.some.inj this)) (by decide)
         refine .sched [] (.one 0 false (.one 2 false (.one 3 false (.one 4 false (.one 5 false (.one 6 false (.one 7 false (.one 8 false (.one 9 false (.alt 1 (.one 10 false (.one 11 false (.one 12 false .stop))) (.one 10 false (.one 1 false (.one 11 false (.one 12 false .stop)))))))))))))) (by kernel_rfl) ?_
         refine aK ?_
         refine eO.mk 5 _ (AV.iface t (.ptr r 0)) rfl (Ba eg hm) ?_
         refine aa 0 ?_
         refine And.intro ?_ ?_
         ·refine aa 2 ?_
          refine W.aStep [_,_,_,_,_,_] hMe gM hf fun s' dV=>?_
          refine aK ?_
          refine cU 1 rfl (tB _ (by omega)) ?_
          refine aa 2 ?_
          refine aK ?_
          refine aT 3 rfl (xr (by omega)) ?_
          refine aK ?_
          refine cU 3 rfl (xq _ (by omega)) ?_
          refine aa 2 ?_
          refine an 2 ?_
          refine .mk (s',(st.set i (wr (st.getD i 0+1))),(dn.set i (W.step (W.abs s) i pd).2),us+1) rfl (by show af.length-(us+1)<af.length-us;omega) (xm hI l0 cf fN eT hi eg hd dV) ⟨rfl,rfl,rfl,rfl,rfl,rfl,trivial⟩ (.drop 0 1 (.pull [2,2,0] (aJ ?_)))
          show _=(br,[AV.ae ba 0 W.L.length 1,AV.ae bd 0 W.L.length 1,AV.int .i64 ((us+1:Nat):Int)])::_
          rw[← ma]
          rfl
         ·refine W.aStep [_,_,_,_,_,_] hMe gM hf fun s' dV=>?_
          refine aa 2 ?_
          refine aK ?_
          refine cU 1 rfl (tB _ (by omega)) ?_
          refine aa 2 ?_
          refine aK ?_
          refine aT 3 rfl (xr (by omega)) ?_
          refine aK ?_
          refine cU 3 rfl (xq _ (by omega)) ?_
          refine aa 2 ?_
          refine an 2 ?_
          refine .mk (s',(st.set i (wr (st.getD i 0+1))),(dn.set i (W.step (W.abs s) i pd).2),us+1) rfl (by show af.length-(us+1)<af.length-us;omega) (xm hI l0 cf fN eT hi eg hd dV) ⟨rfl,rfl,rfl,rfl,rfl,rfl,trivial⟩ (.drop 0 1 (.pull [2,2,0] (aJ ?_)))
          show _=(br,[AV.ae ba 0 W.L.length 1,AV.ae bd 0 W.L.length 1,AV.int .i64 ((us+1:Nat):Int)])::_
          rw[← ma]
          rfl
     ·refine W.aStep [_,_,_,_,_,_] hMe gM hf fun s' dV=>?_
      refine aa 2 ?_
      refine aK ?_
      refine cU 1 rfl (tB _ (by omega)) ?_
      refine aa 2 ?_
      refine aK ?_
      refine aT 3 rfl (xr (by omega)) ?_
      refine aK ?_
      refine cU 3 rfl (xq _ (by omega)) ?_
      refine aa 2 ?_
      refine an 2 ?_
      refine .loop (S:=W.S×List Int×List Bool×Nat) (fun _=>0) (fun _=>[(0,W.mv),(1,.ae lb 0 W.L.length 1),(2,.ai (.field (.int .i64) (.field (.int .i64) .nil)) af),(3,.iH),(8,.ptr aG 0),(9,.ptr br 0)]) (fun x=>(br,[.ae ba 0 W.L.length 1,.ae bd 0 W.L.length 1,.int .i64 x.2.2.2])::(ba,kx x.2.1)::(bd,jI x.2.2.1)::(aG,[.aj,.aj,.int .i64 0])::(lb,W.L)::(W.B x.1++σ)) (we W af a0) (fun x=>af.length-x.2.2.2) (s',(st.set i (wr (st.getD i 0+1))),(dn.set i (W.step (W.abs s) i pd).2),us+1) ⟨rfl,(xm hI l0 cf fN eT hi eg hd dV),⟨rfl,rfl,rfl,rfl,rfl,rfl,trivial⟩,.drop 0 1 (.pull [2,2,0] (aJ ?_))⟩ ?_
      ·show _=(br,[AV.ae ba 0 W.L.length 1,AV.ae bd 0 W.L.length 1,AV.int .i64 ((us+1:Nat):Int)])::_
       rw[← ma]
       rfl
      rintro⟨s,st,dn,us⟩ g hI
      have ⟨gi,cH,ek,rJ,hf,Ff⟩:=hI
      have gi:us≤af.length:=gi
      have cH:st.length=W.L.length:=cH
      have ek:dn.length=W.L.length:=ek
      have hF:=fun σ=>Io (.ae ba 0 W.L.length 1) us bd dn σ (by omega)
      rw[ek]at hF
      refine aa 0 ?_
      refine aq (fun c1=>?_) (fun c1=>?_)
      ·have c1:(↑us:Int)=(↑af.length:Int):=c1
       have hE:=xA hI (.inl (by show us=_;omega))
       refine aa 0 ?_
       refine an 3 ?_
       refine aa 3 ?_
       refine .cI 1 ba 0 W.L.length 1 _ (.int .i64) st rfl (xt cH) ⟨cH,rfl,by decide⟩ (nq .here (.refl _) (.refl _) rfl rfl rfl) ?_
       refine .cI 1 bd 0 W.L.length 1 _ .bool dn rfl (xC ek) ⟨ek,rfl,by decide⟩ (nq (.refl _) .here (.refl _) rfl rfl rfl) ?_
       exact .drop 0 2 (.done ⟨s,by rw[hE],by rw[hE],rfl⟩)
      ·have c1:¬((↑us:Int)=(↑af.length:Int)):=c1
       refine aa 0 ?_
       refine aB [2] (hF _) ?_
       cases cf:dn.all id with
       |true=>
        have hE:=xA hI (.inr cf)
        refine aa 1 ?_
        refine an 3 ?_
        refine aa 3 ?_
        refine .cI 2 ba 0 W.L.length 1 _ (.int .i64) st rfl (xt cH) ⟨cH,rfl,by decide⟩ (nq .here (.refl _) (.refl _) rfl rfl rfl) ?_
        refine .cI 0 bd 0 W.L.length 1 _ .bool dn rfl (xC ek) ⟨ek,rfl,by decide⟩ (nq (.refl _) .here (.refl _) rfl rfl rfl) ?_
        exact .drop 0 2 (.done ⟨s,by rw[hE],by rw[hE],rfl⟩)
       |false=>
        refine aa 1 ?_
        refine aH.mk rfl ?_
        have fN:us<af.length:=by omega
        have ma:AV.int .i64 (IntKind.i64.wrap ((us:Int)+1))=AV.int .i64 ((us+1:Nat):Int):=bu (by omega)
        obtain⟨pk,eT⟩:∃pk,pk=af[us]:=⟨_,rfl⟩
        obtain⟨pw,pd,pu⟩:=pk
        have fY:0<W.L.length:=by
         rcases uQ W.L.length with h0 | h0
         ·rw[iS.1 (ek.trans h0)]at cf;cases cf
         ·exact h0
        refine cg.mk (pw,pd,pu) (by omega) ((get_some fN).trans (congrArg some eT.symm)) ?_
        obtain⟨i,hi⟩:∃i,i=df pw W.L.length:=⟨_,rfl⟩
        have eg:i<W.L.length:=by rw[hi];exact yZ fY
        have sF:=fun σ=>Ec pw pd W.L.length σ (by omega)
        rw[← hi]at sF
        intro bp
        refine an 0 ?_
        refine aa 0 ?_
        refine aB [] (sF _) ?_
        refine aa 2 ?_
        refine aK ?_
        cases hd:dn[i] with
        |true=>
         refine aT 1 rfl (tC (by omega) hd) ?_
         refine aa 2 ?_
         refine an 2 ?_
         refine .mk (s,st,dn,us+1) rfl (by show af.length-(us+1)<af.length-us;omega) (G7 hI l0 cf fN eT hi (by omega) hd) ⟨rfl,rfl,rfl,rfl,rfl,rfl,trivial⟩ (.drop 0 1 (.pull [2,2,0] (aJ ?_)))
         show _=(br,[AV.ae ba 0 W.L.length 1,AV.ae bd 0 W.L.length 1,AV.int .i64 ((us+1:Nat):Int)])::_
         rw[← ma]
         rfl
        |false=>
         refine aT 1 rfl (tC (by omega) hd) ?_
         rcases W.mach i eg with hm | ⟨t,r,hm,gS,hMe,gM⟩
         ·have:=rJ i eg hm
          rw[bc (by show i<dn.length;omega)]at this
          exact absurd (hd.symm.trans (Option.some.inj this)) (by decide)
         refine .sched [] (.one 0 false (.one 2 false (.one 3 false (.one 4 false (.one 5 false (.one 6 false (.one 7 false (.one 8 false (.one 9 false (.alt 1 (.one 10 false (.one 11 false (.one 12 false .stop))) (.one 10 false (.one 1 false (.one 11 false (.one 12 false .stop)))))))))))))) (by kernel_rfl) ?_
         refine aK ?_
         refine eO.mk 5 _ (AV.iface t (.ptr r 0)) rfl (Ba eg hm) ?_
         refine aa 0 ?_
         refine And.intro ?_ ?_
         ·refine aa 2 ?_
          refine W.aStep [_,_,_,_,_,_] hMe gM hf fun s' dV=>?_
          refine aK ?_
          refine cU 1 rfl (tB _ (by omega)) ?_
          refine aa 2 ?_
          refine aK ?_
          refine aT 3 rfl (xr (by omega)) ?_
          refine aK ?_
          refine cU 3 rfl (xq _ (by omega)) ?_
          refine aa 2 ?_
          refine an 2 ?_
          refine .mk (s',(st.set i (wr (st.getD i 0+1))),(dn.set i (W.step (W.abs s) i pd).2),us+1) rfl (by show af.length-(us+1)<af.length-us;omega) (xm hI l0 cf fN eT hi eg hd dV) ⟨rfl,rfl,rfl,rfl,rfl,rfl,trivial⟩ (.drop 0 1 (.pull [2,2,0] (aJ ?_)))
          show _=(br,[AV.ae ba 0 W.L.length 1,AV.ae bd 0 W.L.length 1,AV.int .i64 ((us+1:Nat):Int)])::_
          rw[← ma]
          rfl
         ·refine W.aStep [_,_,_,_,_,_] hMe gM hf fun s' dV=>?_
          refine aa 2 ?_
          refine aK ?_
          refine cU 1 rfl (tB _ (by omega)) ?_
          refine aa 2 ?_
          refine aK ?_
          refine aT 3 rfl (xr (by omega)) ?_
          refine aK ?_
          refine cU 3 rfl (xq _ (by omega)) ?_
          refine aa 2 ?_
          refine an 2 ?_
          refine .mk (s',(st.set i (wr (st.getD i 0+1))),(dn.set i (W.step (W.abs s) i pd).2),us+1) rfl (by show af.length-(us+1)<af.length-us;omega) (xm hI l0 cf fN eT hi eg hd dV) ⟨rfl,rfl,rfl,rfl,rfl,rfl,trivial⟩ (.drop 0 1 (.pull [2,2,0] (aJ ?_)))
          show _=(br,[AV.ae ba 0 W.L.length 1,AV.ae bd 0 W.L.length 1,AV.int .i64 ((us+1:Nat):Int)])::_
          rw[← ma]
          rfl
end Go.Proofs.YtnikdflhefijbaaGreat
