import Derived.Test.YtnikdflhefijbaaGreatRows
import Derived.Test.YtnikdflhefijbaaGreatBs5
namespace Go.Proofs.YtnikdflhefijbaaGreat
abbrev aC:AV:=.int .i64 0
abbrev aE:Option TI:=some ⟨.func,1,8,[.iE]⟩
abbrev iF(n:Nat):Option TI:=some ⟨.ptr n,1,8,[.cR]⟩
abbrev nM(n:Nat):Option TI:=some ⟨.slice n,1,24,[.ag]⟩
abbrev GI:Option TI:=some ⟨.int .i64,1,8,[.int .i64 0]⟩
def tbl:List (List (Option TI)):=[
 [none,aE,GI,GI,some ⟨.bool,1,1,[.bool false]⟩,some ⟨.int .u8,1,1,[.int .u8 0]⟩,some ⟨.int .u8,1,1,[.int .u8 0]⟩,some ⟨.bz [(0,2),(1,3),(2,4),(3,6)],4,24,[aC,aC,.bool false,.int .u8 0]⟩,some ⟨.bz [(0,2),(1,3),(2,4),(3,6)],4,24,[aC,aC,.bool false,.int .u8 0]⟩,some ⟨.str,1,16,[.str ByteArray.empty]⟩,some ⟨.str,1,16,[.str ByteArray.empty]⟩,some ⟨.str,1,16,[.str ByteArray.empty]⟩,some ⟨.int .u64,1,8,[.int .u64 0]⟩,some ⟨.bz [(0,9),(1,12)],2,24,[.str ByteArray.empty,.int .u64 0]⟩,some ⟨.bz [(0,9),(1,12)],2,24,[.str ByteArray.empty,.int .u64 0]⟩,iF 386],[iF 389,iF 397,some ⟨.bz [(0,17)],1,8,[.cR]⟩,some ⟨.bz [(0,17)],1,8,[.cR]⟩,some ⟨.iface,1,16,[.nilif]⟩,some ⟨.int .i32,1,4,[.int .i32 0]⟩,nM 227,nM 3,nM 56,nM 93,some ⟨.bz [(0,3),(1,3),(2,3),(3,22),(4,23),(5,24),(6,25)],7,120,[aC,aC,aC,.ag,.ag,.ag,.ag]⟩,some ⟨.bz [(0,3),(1,3),(2,3),(3,22),(4,23),(5,24),(6,25)],7,120,[aC,aC,aC,.ag,.ag,.ag,.ag]⟩,nM 121,aE,aE,nM 24],[some ⟨.bz [(0,31),(1,3),(2,3),(3,3)],4,48,[.ag,aC,aC,aC]⟩,some ⟨.bz [(0,31),(1,3),(2,3),(3,3)],4,48,[.ag,aC,aC,aC]⟩,GI,none,aE,nM 4,some ⟨.bz [(0,31),(1,37),(2,3),(3,3),(4,3),(5,3),(6,23),(7,23),(8,37)],9,152,[.ag,.ag,aC,aC,aC,aC,.ag,.ag,.ag]⟩,some ⟨.bz [(0,31),(1,37),(2,3),(3,3),(4,3),(5,3),(6,23),(7,23),(8,37)],9,152,[.ag,.ag,aC,aC,aC,aC,.ag,.ag,.ag]⟩,none,aE,some ⟨.bz [(0,3),(1,3),(2,3),(3,3)],4,32,[aC,aC,aC,aC]⟩,some ⟨.bz [(0,3),(1,3),(2,3),(3,3)],4,32,[aC,aC,aC,aC]⟩,none,aE,iF 58,nM 123],[none,aE,none,aE,none,aE,aE,aE,some ⟨.int .u64,1,8,[.int .u64 0]⟩,some ⟨.bz [(0,24)],1,24,[.ag]⟩,some ⟨.bz [(0,24)],1,24,[.ag]⟩,aE,aE,aE,some ⟨.int .u16,1,2,[.int .u16 0]⟩,aE],[aE,aE,aE,aE,aE,aE,aE,none,aE,aE,aE,none,aE,nM 84,none,aE],[none,aE,aE,some ⟨.bz [(0,3),(1,3),(2,56),(3,56),(4,56),(5,4)],6,48,[aC,aC,.int .u64 0,.int .u64 0,.int .u64 0,.bool false]⟩,some ⟨.bz [(0,3),(1,3),(2,56),(3,56),(4,56),(5,4)],6,48,[aC,aC,.int .u64 0,.int .u64 0,.int .u64 0,.bool false]⟩,some ⟨.bz [(0,3),(1,3),(2,3),(3,3)],4,32,[aC,aC,aC,aC]⟩,none,aE,aE,aE,aE,nM 233,some ⟨.bz [(0,24),(1,24),(2,91)],3,72,[.ag,.ag,.ag]⟩,some ⟨.bz [(0,24),(1,24),(2,91)],3,72,[.ag,.ag,.ag]⟩,iF 217,nM 168],[some ⟨.bz [(0,23),(1,37),(2,3)],3,56,[.ag,.ag,aC]⟩,some ⟨.bz [(0,23),(1,37),(2,3)],3,56,[.ag,.ag,aC]⟩,some ⟨.bz [(0,94),(1,85),(5,95),(6,97)],9,120,[.cR,aC,aC,aC,aC,.ag,.ag,.ag,aC]⟩,some ⟨.bz [(0,94),(1,85),(5,95),(6,97)],9,120,[.cR,aC,aC,aC,aC,.ag,.ag,.ag,aC]⟩,none,aE,aE,aE,aE,some ⟨.bz [(0,3),(1,3)],2,16,[aC,aC]⟩,some ⟨.bz [(0,3),(1,3)],2,16,[aC,aC]⟩,aE,aE,aE,aE,aE],[aE,some ⟨.bz [(0,3),(1,3)],2,16,[aC,aC]⟩,some ⟨.bz [(0,3),(1,3)],2,16,[aC,aC]⟩,aE,aE,aE,aE,aE,some ⟨.bz [(0,3),(1,3)],2,16,[aC,aC]⟩,some ⟨.bz [(0,3),(1,3)],2,16,[aC,aC]⟩,aE,iF 129,aE,iF 238,iF 245,iF 242],[some ⟨.bz [(0,27),(7,43),(11,3),(12,3),(13,3),(14,4),(15,23),(16,24),(17,125),(18,126),(19,127),(20,24),(21,3),(22,3),(23,4)],24,304,[aC,aC,aC,.ag,.ag,.ag,.ag,aC,aC,aC,aC,aC,aC,aC,.bool false,.ag,.ag,.cR,.cR,.cR,.ag,aC,aC,.bool false]⟩,some ⟨.bz [(0,27),(7,43),(11,3),(12,3),(13,3),(14,4),(15,23),(16,24),(17,125),(18,126),(19,127),(20,24),(21,3),(22,3),(23,4)],24,304,[aC,aC,aC,.ag,.ag,.ag,.ag,aC,aC,aC,aC,aC,aC,aC,.bool false,.ag,.ag,.cR,.cR,.cR,.ag,aC,aC,.bool false]⟩,aE,aE,aE,none,aE,aE,aE,aE,aE,aE,aE,iF 165,some ⟨.bz [(0,141)],1,8,[.cR]⟩,some ⟨.bz [(0,141)],1,8,[.cR]⟩],[none,aE,aE,aE,aE,aE,nM 23,aE,aE,aE,aE,aE,aE,aE,aE,aE],[some ⟨.iface,1,16,[.nilif]⟩,some ⟨.iface,1,16,[.nilif]⟩,some ⟨.bz [(0,161)],1,16,[.nilif]⟩,some ⟨.bz [(0,161)],1,16,[.nilif]⟩,some ⟨.bz [(0,163),(1,77)],2,40,[.nilif,.ag]⟩,some ⟨.bz [(0,163),(1,77)],2,40,[.nilif,.ag]⟩,aE,aE,iF 186,none,aE,aE,aE,nM 176,aE,some ⟨.iface,1,16,[.nilif]⟩],[some ⟨.iface,1,16,[.nilif]⟩,aE,aE,some ⟨.bz [(0,3),(1,3),(2,3)],3,24,[aC,aC,aC]⟩,some ⟨.bz [(0,3),(1,3),(2,3)],3,24,[aC,aC,aC]⟩,aE,aE,aE,some ⟨.iface,1,16,[.nilif]⟩,some ⟨.bz [(0,3),(1,3),(2,4),(3,27),(10,85),(14,3),(15,3),(16,184),(17,3),(18,4),(19,23),(20,24),(21,4)],22,280,[aC,aC,.bool false,aC,aC,aC,.ag,.ag,.ag,.ag,aC,aC,aC,aC,aC,aC,.nilif,aC,.bool false,.ag,.ag,.bool false]⟩,some ⟨.bz [(0,3),(1,3),(2,4),(3,27),(10,85),(14,3),(15,3),(16,184),(17,3),(18,4),(19,23),(20,24),(21,4)],22,280,[aC,aC,.bool false,aC,aC,aC,.ag,.ag,.ag,.ag,aC,aC,aC,aC,aC,aC,.nilif,aC,.bool false,.ag,.ag,.bool false]⟩,aE,aE,aE,aE,aE],[aE,none,aE,some ⟨.bz [(0,3),(1,3),(2,56),(3,56)],4,32,[aC,aC,.int .u64 0,.int .u64 0]⟩,some ⟨.bz [(0,3),(1,3),(2,56),(3,56)],4,32,[aC,aC,.int .u64 0,.int .u64 0]⟩,aE,aE,aE,aE,aE,aE,aE,none,aE,aE,aE],[aE,aE,aE,aE,aE,some ⟨.bz [(0,3)],1,8,[aC]⟩,some ⟨.bz [(0,3)],1,8,[aC]⟩,aE,some ⟨.bz [(0,214),(1,24)],2,32,[aC,.ag]⟩,some ⟨.bz [(0,214),(1,24)],2,32,[aC,.ag]⟩,aE,none,aE,aE,none,aE],[aE,aE,some ⟨.bz [(0,3),(1,3)],2,16,[aC,aC]⟩,some ⟨.bz [(0,3),(1,3)],2,16,[aC,aC]⟩,some ⟨.bz [(0,3),(1,3)],2,16,[aC,aC]⟩,some ⟨.bz [(0,3),(1,3)],2,16,[aC,aC]⟩,some ⟨.bz [(0,3),(1,229)],3,24,[aC,aC,aC]⟩,some ⟨.bz [(0,3),(1,229)],3,24,[aC,aC,aC]⟩,some ⟨.bz [(0,3),(1,3),(2,231),(5,231)],8,64,[aC,aC,aC,aC,aC,aC,aC,aC]⟩,some ⟨.bz [(0,3),(1,3),(2,231),(5,231)],8,64,[aC,aC,aC,aC,aC,aC,aC,aC]⟩,aE,aE,aE,some ⟨.bz [(0,3),(1,3),(2,3),(3,56),(4,4),(5,4),(6,3),(7,56),(8,56),(9,56)],10,72,[aC,aC,aC,.int .u64 0,.bool false,.bool false,aC,.int .u64 0,.int .u64 0,.int .u64 0]⟩,some ⟨.bz [(0,3),(1,3),(2,3),(3,56),(4,4),(5,4),(6,3),(7,56),(8,56),(9,56)],10,72,[aC,aC,aC,.int .u64 0,.bool false,.bool false,aC,.int .u64 0,.int .u64 0,.int .u64 0]⟩,aE],[aE,some ⟨.bz [(0,3),(1,3),(2,3),(3,24),(4,3),(5,4),(6,56),(7,4),(8,4),(9,3)],10,88,[aC,aC,aC,.ag,aC,.bool false,.int .u64 0,.bool false,.bool false,aC]⟩,some ⟨.bz [(0,3),(1,3),(2,3),(3,24),(4,3),(5,4),(6,56),(7,4),(8,4),(9,3)],10,88,[aC,aC,aC,.ag,aC,.bool false,.int .u64 0,.bool false,.bool false,aC]⟩,aE,some ⟨.bz [(0,3),(1,3),(2,3),(3,3),(4,3),(5,4),(6,4),(7,4),(8,3)],9,56,[aC,aC,aC,aC,aC,.bool false,.bool false,.bool false,aC]⟩,some ⟨.bz [(0,3),(1,3),(2,3),(3,3),(4,3),(5,4),(6,4),(7,4),(8,3)],9,56,[aC,aC,aC,aC,aC,.bool false,.bool false,.bool false,aC]⟩,aE,none,aE,aE,aE,aE,aE,some ⟨.int .u64,1,8,[.int .u64 0]⟩,none,aE],[aE,aE,aE,aE,aE,aE,aE,aE,aE,aE,aE,aE,aE,none,aE,aE],[aE,aE,aE,aE,aE,aE,aE,aE,aE,aE,aE,aE,some ⟨.int .u32,1,4,[.int .u32 0]⟩,none,aE,none],[aE,none,aE,aE,aE,aE,aE,aE,aE,aE,aE,aE,aE,aE,aE,aE],[aE,aE,aE,GI,none,aE,aE,aE,none,aE,aE,aE,aE,aE,aE,aE],[aE,aE,aE,aE,aE,some ⟨.bz [(0,150),(1,23),(2,23),(3,37),(4,23),(5,3),(6,150)],7,152,[.ag,.ag,.ag,.ag,.ag,aC,.ag]⟩,some ⟨.bz [(0,150),(1,23),(2,23),(3,37),(4,23),(5,3),(6,150)],7,152,[.ag,.ag,.ag,.ag,.ag,aC,.ag]⟩,aE,aE,aE,aE,some ⟨.int .u64,1,8,[.int .u64 0]⟩,aE,aE,aE,iF 3],[aE,aE,aE,aE,aE,aE,iF 326,some ⟨.bz [(0,3),(1,3)],2,16,[aC,aC]⟩,some ⟨.bz [(0,3),(1,3)],2,16,[aC,aC]⟩,aE,nM 344,iF 344,aE,aE,aE,aE],[aE,iF 331,aE,aE,aE,aE,nM 360,some ⟨.bz [(0,3),(1,3)],2,16,[aC,aC]⟩,some ⟨.bz [(0,3),(1,3)],2,16,[aC,aC]⟩,iF 360,aE,aE,aE,aE,none,aE],[aE,aE,aE,aE,aE,aE,aE,aE,aE,aE,aE,aE,some ⟨.fK,1,16,[.fK 0 0]⟩,aE,some ⟨.gi,1,8,[.gi 0]⟩,aE],[aE,some ⟨.bz [(0,17),(1,17),(2,17),(3,9)],4,40,[.cR,.cR,.cR,.str ByteArray.empty]⟩,some ⟨.bz [(0,17),(1,17),(2,17),(3,9)],4,40,[.cR,.cR,.cR,.str ByteArray.empty]⟩,some ⟨.arr 0 16,0,0,[]⟩,some ⟨.bz [(0,387)],0,0,[]⟩,some ⟨.bz [(0,387)],0,0,[]⟩,some ⟨.int .u8,1,1,[.int .u8 0]⟩,some ⟨.int .u8,1,1,[.int .u8 0]⟩,aE,iF 5,some ⟨.int .i32,1,4,[.int .i32 0]⟩,some ⟨.int .i32,1,4,[.int .i32 0]⟩,some ⟨.bz [(0,12),(1,12),(2,284),(3,390),(4,5),(5,5),(6,391),(7,392),(8,393),(9,394),(10,395)],11,48,[.int .u64 0,.int .u64 0,.int .u32 0,.int .u8 0,.int .u8 0,.int .u8 0,.int .u8 0,.iE,.cR,.int .i32 0,.int .i32 0]⟩,some ⟨.bz [(0,12),(1,12),(2,284),(3,390),(4,5),(5,5),(6,391),(7,392),(8,393),(9,394),(10,395)],11,48,[.int .u64 0,.int .u64 0,.int .u32 0,.int .u8 0,.int .u8 0,.int .u8 0,.int .u8 0,.iE,.cR,.int .i32 0,.int .i32 0]⟩,aE,iF 403],[some ⟨.bz [(0,3),(1,56),(2,56),(3,56)],4,32,[aC,.int .u64 0,.int .u64 0,.int .u64 0]⟩,some ⟨.bz [(0,3),(1,56),(2,56),(3,56)],4,32,[aC,.int .u64 0,.int .u64 0,.int .u64 0]⟩,some ⟨.bz [(0,114),(2,56),(3,4),(4,4),(5,401)],9,64,[aC,aC,.int .u64 0,.bool false,.bool false,aC,.int .u64 0,.int .u64 0,.int .u64 0]⟩,some ⟨.bz [(0,114),(2,56),(3,4),(4,4),(5,401)],9,64,[aC,aC,.int .u64 0,.bool false,.bool false,aC,.int .u64 0,.int .u64 0,.int .u64 0]⟩,iF 405,some ⟨.bz [(0,114),(2,56),(3,4),(4,4),(5,401)],9,64,[aC,aC,.int .u64 0,.bool false,.bool false,aC,.int .u64 0,.int .u64 0,.int .u64 0]⟩,iF 408,some ⟨.bz [(0,106),(2,4),(3,4)],4,24,[aC,aC,.bool false,.bool false]⟩,some ⟨.bz [(0,106),(2,4),(3,4)],4,24,[aC,aC,.bool false,.bool false]⟩,iF 411,some ⟨.bz [(0,106),(2,3),(3,4)],4,32,[aC,aC,aC,.bool false]⟩,some ⟨.bz [(0,106),(2,3),(3,4)],4,32,[aC,aC,aC,.bool false]⟩,iF 416,some ⟨.bz [(0,3),(1,4),(2,56)],3,24,[aC,.bool false,.int .u64 0]⟩,some ⟨.bz [(0,3),(1,4),(2,56)],3,24,[aC,.bool false,.int .u64 0]⟩,some ⟨.bz [(0,180),(3,24),(4,4),(5,414)],8,80,[aC,aC,aC,.ag,.bool false,aC,.bool false,.int .u64 0]⟩],[some ⟨.bz [(0,180),(3,24),(4,4),(5,414)],8,80,[aC,aC,aC,.ag,.bool false,aC,.bool false,.int .u64 0]⟩,iF 419,some ⟨.bz [(0,180),(3,24),(4,4),(5,4),(6,3),(7,414)],10,88,[aC,aC,aC,.ag,.bool false,.bool false,aC,aC,.bool false,.int .u64 0]⟩,some ⟨.bz [(0,180),(3,24),(4,4),(5,4),(6,3),(7,414)],10,88,[aC,aC,aC,.ag,.bool false,.bool false,aC,aC,.bool false,.int .u64 0]⟩,iF 424,some ⟨.bz [(0,4)],1,1,[.bool false]⟩,some ⟨.bz [(0,4)],1,1,[.bool false]⟩,some ⟨.bz [(0,106),(2,3),(3,4),(4,4),(5,422)],6,32,[aC,aC,aC,.bool false,.bool false,.bool false]⟩,some ⟨.bz [(0,106),(2,3),(3,4),(4,4),(5,422)],6,32,[aC,aC,aC,.bool false,.bool false,.bool false]⟩,iF 426,some ⟨.bz [(0,114),(2,56),(3,4),(4,4),(5,401)],9,64,[aC,aC,.int .u64 0,.bool false,.bool false,aC,.int .u64 0,.int .u64 0,.int .u64 0]⟩,iF 429,some ⟨.bz [(0,106),(2,3),(3,4)],4,32,[aC,aC,aC,.bool false]⟩,some ⟨.bz [(0,106),(2,3),(3,4)],4,32,[aC,aC,aC,.bool false]⟩,aE,none]]
def tt(t:TypeId):Option TI:=match tbl[t / 16]? with | some r=>(match r[t % 16]? with | some x=>x | none=>none) | none=>none
theorem ado:TA Tryz.prog tt 432=true:=by kernel_rfl
theorem abp(t:TypeId)(h:432≤t):tt t=none:=by
 unfold tt;rw[sE (show tbl.length≤t / 16 from (Nat.le_div_iff_mul_le (by decide)).2 h)]
theorem aeS:dP Tryz.prog tt:=abo ado abp
end Go.Proofs.YtnikdflhefijbaaGreat
namespace Go.Proofs.YtnikdflhefijbaaGreat
theorem okF{f:FuncId}{fn:Func}{xs:List AV}{σ:Hp}{R:AV→Hp→Prop}(hf:Tryz.prog.funcs[f]?=some fn)(cM:funcOk fn=true)(h:ta Tryz.prog tt fn xs σ R):ACalls Tryz.prog f xs σ R:=
 YW aeS (by kernel_rfl) hf cM h
theorem ao{f:FuncId}{fn:Func}{xs:List AV}{σ:Hp}{R:AV→Hp→Prop}(hf:Tryz.prog.funcs[f]?=some fn)(h:ta Tryz.prog tt fn xs σ R)(cM:funcOk fn=true:=by kernel_rfl):ACalls Tryz.prog f xs σ R:=okF hf cM h
theorem bc{S:Type}(L:S→List (Nat×AV))(H:S→Hp)(p:S→Prop)(μ:S→Nat)(s0:S){body:Tm→Hp→(Ex→Tm→Hp→Prop)→Prop}{t:Tm}{σ:Hp}{Q:Ex→Tm→Hp→Prop}(h0:p s0∧agree t (L s0)∧σ=H s0)
  (round:∀s g,p s→body (mr g (L s)) (H s) (fun e t' σ'=>match e with | .normal=>oR L H p μ s t' σ' | e=>Q e t' σ')):mj body Q t σ:=.mk L H p μ s0 h0 round
theorem aM{S:Type}{L:S→List (Nat×AV)}{H:S→Hp}{p:S→Prop}{μ:S→Nat}{s:S}{t':Tm}{σ':Hp}(s':S)(h1:μ s'<μ s)(h2:p s')(h3:agree t' (L s'))(h4:iY σ' (H s')):oR L H p μ s t' σ':=.mk s' h1 h2 h3 h4
theorem next{S:Type}{L:S→List (Nat×AV)}{H:S→Hp}{p:S→Prop}{μ:S→Nat}{s:S}{t':Tm}{σ':Hp}(s':S)(h1:μ s'<μ s)(h2:p s')(h3:agree t' (L s'))(h4:σ'=H s'):oR L H p μ s t' σ':=.mk s' h1 h2 h3 (h4▸.refl _)
def upto(Q:List Nat)(n:Nat):Nat→nu:=Nat.rec (motive:=fun _=>Nat→nu) (fun _=>.stop) (fun _ ih i=>.one i (eV i Q) (ih (i+1))) n
theorem aL{σ σ2:Hp}(h:σ=σ2):iY σ σ2:=h▸.refl _
theorem Bq{P:Program}{f:FuncId}{e:Sh}{l:List e.T}{σ:Hp}{R:AV→Hp→Prop}(h0:l=[]→ACalls P f [.ag] σ R∧ACalls P f [.gz] σ R)(h1:l≠[]→ACalls P f [.ae e l] σ R):ACalls P f [.ae e l] σ R:=by
 by_cases hl:l=[]
 ·obtain⟨k0,k1⟩:=h0 hl;refine⟨k0.1,fun F w vs bY aG =>?_⟩;have hv:=bY.2 0 _ rfl;have qY:∀y,aD F w y (vs.getD 0 undef)→iS F w [y] vs:=fun y hy=>⟨bY.1,fun i x hx=>by cases i <;> simp at hx;subst hx;exact hy⟩
  subst hl;generalize hu:vs.getD 0 undef=u at hv qY;cases hv with
  |ae _ _ _ hr=>
   obtain⟨a,c,e1,_,e3,e0,_⟩:=hr;obtain rfl:=HX.1 e1;cases a with
   |none=>
    obtain rfl:=e0 rfl;exact k0.2 F w vs (qY _ .ag) aG
   |some a=>exact k1.2 F w vs (qY _ (.gz a c e3)) aG
 ·exact h1 hl
theorem aI{k:Nat}(h:k<1000000000):AV.int .i64 (IntKind.i64.wrap ((k:Int)+1))=AV.int .i64 ((k+1:Nat):Int):=by
 rw[show IntKind.i64.wrap ((k:Int)+1)=((k+1:Nat):Int) by rw[IntKind.wrap_i64];omega]
theorem get_some{α:Type}{l:List α}{k:Nat}(h:k<l.length):l[((k:Int)).toNat]?=some l[k]:=bu h
def ay(x:AV)(σ:Hp):AV→Hp→Prop:=fun r σ'=>r=x∧σ'=σ
theorem aw{P:Program}{f:FuncId}{xs:List AV}{σ:Hp}{K:AV→Hp→Prop}(js:List Nat){x:AV}{σ2:Hp}(h:ACalls P f xs (nG js σ) (ay x σ2))(k:K x σ2):CallAt P f K xs σ:=
 CallAt.mk js _ h fun _ _ ⟨h1,h2⟩=>h1▸h2▸k
theorem aN{P:Program}{f:FuncId}{xs:List AV}{σ:Hp}{K:AV→Prop}(js:List Nat){x:AV}(h:ACalls P f xs (nG js σ) (ay x (nG js σ)))(k:K x):tc P f xs σ K:=tc.mk js x h k
theorem dc{P:Program}{f:FuncId}{xs:List AV}{σ:Hp}{K:AV→Hp→Prop}(js:List Nat){x:Bool}{σ2:Hp}(h:ACalls P f xs (nG js σ) (ay (.bool x) σ2))(k1:x=true→K (.bool true) σ2)(k2:x=false→K (.bool false) σ2):CallAt P f K xs σ:=
 aw js h (by cases x;exact k2 rfl;exact k1 rfl)
theorem Kr{P:Program}{f:FuncId}{xs:List AV}{σ:Hp}{K:AV→Prop}(js:List Nat){x:Bool}(h:ACalls P f xs (nG js σ) (ay (.bool x) (nG js σ)))(k1:x=true→K (.bool true))(k2:x=false→K (.bool false)):tc P f xs σ K:=
 aN js h (by cases x;exact k2 rfl;exact k1 rfl)
theorem ec.jG{i:TI}{σ:Hp}{b o:Nat}{K:AV→Prop}(j:Nat)(cs:List AV)(x:Bool)(h1:σ[j]?=some (b,cs))(h2:ef i cs o=some (.bool x))(k1:x=true→K (.bool true))(k2:x=false→K (.bool false)):ec i σ b o K:=
 .mk j cs _ h1 h2 (by cases x;exact k2 rfl;exact k1 rfl)
theorem sU{b off len es:Nat}{e:Sh}{l:List e.T}:eB b off len es e l (.tup []) (.tup []):=.refl _
theorem bZ{b off len es:Nat}{e:Sh}{l:List e.T}{x y:AV}{xs ys:List AV}(h:eB b off len es e l x y)(t:eB b off len es e l (.tup xs) (.tup ys)):eB b off len es e l (.tup (x::xs)) (.tup (y::ys)):=by
 have hl:xs.length=ys.length∧∀(i:Nat) (x y:AV),xs[i]?=some x→ys[i]?=some y→eB b off len es e l x y:=by
  cases t with
  |refl=>exact⟨rfl,fun i x y hx hy=>by rw[hx]at hy;cases hy;exact .refl _⟩
  |tup _ _ h hi=>exact⟨h,hi⟩
 refine .tup _ _ (by simp[hl.1]) fun i x' y' hx hy=>?_;cases i with
 |zero=>simp at hx hy;subst hx;subst hy;exact h
 |succ i=>exact hl.2 i x' y' (by simpa using hx) (by simpa using hy)
theorem bJ{a b:Bool}(h:a=b):AV.bool a=AV.bool b:=by rw[h]
theorem aQ{k:IntKind}{a b:Int}(h:a=b):AV.int k a=AV.int k b:=by rw[h]
theorem ew(fr b σ:Hp):(b++(fr++σ)).Perm (fr++(b++σ)):=by
 rw[← cU,← cU];exact List.Perm.append_right _ H4
theorem ji.mem{σ:Hp}{b off len es:Nat}{cs:List AV}(h:(b,cs)∈σ)(h2:off+len*es≤cs.length):ji σ es (.af b off len es) len ((cs.drop off).take (len*es)):=by
 obtain⟨j,hj⟩:=yZ.1 h;exact .af j b off len cs hj h2
theorem ji.perm{σ σ2:Hp}{es n:Nat}{x:AV}{new:List AV}(h:ji σ es x n new)(hp:σ2.Perm σ):ji σ2 es x n new:=by
 cases h with
 |ag=>exact .ag
 |kj=>exact .kj
 |gz=>exact .gz
 |ae s l h=>exact .ae s l h
 |af j b off len cs h1 h2=>
  obtain⟨j',hj⟩:=yZ.1 (hp.mem_iff.2 (dz h1));exact .af j' b off _ cs hj h2
inductive Acc(e:Nat):Nat→AV→Hp→List AV→Prop where
 |nil:Acc e 0 .ag [] []
 |af (b k:Nat) (cs:List AV) (h:cs.length=k*e):Acc e k (.af b 0 k e) [(b,cs)] cs
theorem Acc.length{e k:Nat}{v:AV}{acc:Hp}{cs:List AV}(h:Acc e k v acc cs):cs.length=k*e:=by
 cases h with
 |nil=>simp
 |af b k cs h=>exact h
theorem we(fr acc σ:Hp):(acc++(fr++σ)).Perm (fr++(acc++σ)):=ew fr acc σ
theorem eS{i:TI}{K:AV→Hp→Prop}(fr:Hp){acc σ:Hp}{k n:Nat}{v x:AV}{cs new:List AV}(h:Acc i.size k v acc cs)(hx:ji (fr++(acc++σ)) i.size x n new)(fP:new.length=n*i.size)(hn:k+n≤1048576)(hb:i.bytes≤1024)(h0:0<i.size)
  (go:∀v' aJ,Acc i.size (k+n) v' aJ (cs++new)→K (.via v') (fr++(aJ++σ))):AppendAt i (fr++(acc++σ)) v x K:=by
 have hl:=h.length;cases h with
 |nil=>
  refine .perm _ (ew fr [] σ) (.fresh n new (.inl rfl) (hx.perm (ew fr [] σ)) (by omega) hb h0 (K:=fun v ee=>(n=0∧v=.ag∧ee=[]++(fr++σ))∨(n≠0∧∃b,v=.af b 0 n i.size∧ee=(b,new)::([]++(fr++σ)))) (fun bf b=>.inr ⟨bf,b,rfl,rfl⟩) (fun h0=>.inl ⟨h0,rfl,rfl⟩)) ?_;rintro v ee (⟨hz,rfl,rfl⟩ | ⟨hz,b,rfl,rfl⟩)
  ·subst hz;obtain rfl:new=[]:=List.length_eq_zero_iff.1 (by simpa using fP);exact⟨_,(ew fr [] σ).symm,.inr ⟨rfl,go _ _ .nil⟩⟩
  ·refine⟨_,(ew fr [(b,new)] σ).symm,.inr ⟨rfl,go _ _ ?_⟩⟩;have:=Acc.af (e:=i.size) b (0+n) new (by rw[fP,dD]);rw[dD]at this ⊢;exact this
 |af b k cs h=>
  refine .perm _ (ew fr [(b,cs)] σ) (.more 0 b k n cs new rfl rfl (by rw[h];exact bg _) (hx.perm (ew fr [(b,cs)] σ)) hn hb h0 (K:=fun v ee=>∃b',v=.af b' 0 (k+n) i.size∧ee=(b',cs.take (k*i.size)++new)::(fr++σ)) (fun b'=>⟨b',rfl,rfl⟩)) ?_;rintro v ee ⟨b',rfl,rfl⟩;rw[dZ (by omega)];exact⟨_,(ew fr [(b',cs++new)] σ).symm,.inr ⟨rfl,go _ _ (.af _ _ _ (by rw[bB,h,fP,qv]))⟩⟩
theorem lH{R:AV→Hp→Prop}(fr:Hp){acc σ:Hp}{s:Sh}{k:Nat}{v:AV}{cs:List AV}{l:List s.T}(h:Acc s.size k v acc cs)(hl:k=l.length)(hc:cs=l.flatMap s.cells)(hp:0<s.size)(go:Fin R (.ae s l) (fr++σ)):Fin R v (fr++(acc++σ)):=by
 subst hl;have hlen:=h.length;refine .perm (ew fr acc σ) ?_;generalize hk:l.length=k at h;cases h with
 |nil=>
  obtain rfl:=fE.1 hk;exact .nil (.nil _) go
 |af b k cs h=>
  subst hk;exact .cb 0 b 0 l.length s.size cs s l rfl (by rw[fy,dZ (by omega)];exact hc) ⟨rfl,rfl,hp⟩ .here go
def aj(l:List Int):List AV:=l.map (.int .i64)
theorem ia:∀l:List Int,aj l=l.flatMap (Sh.cells (.int .i64))
 | []=>rfl
 |x::l=>congrArg (AV.int .i64 x :: ·) (ia l)
theorem mf{f:FuncId}{xs:List AV}{σ σ':Hp}{x y:AV}(h:ACalls Tryz.prog f xs σ (ay x σ'))(e:x=y):ACalls Tryz.prog f xs σ (ay y σ'):=e▸h
theorem mH{α:Type}{l:List α}{k:Nat}(h:k<l.length)(p:α→Bool):(l.take (k+1)).any p=((l.take k).any p||p l[k]):=by
 rw[List.take_succ_eq_append_getElem h,List.any_append];simp
set_option maxRecDepth 100000
def aU(ws:List Int):List AV:=ws.map (.int .u64)
theorem zt(n:Nat):cP [.int .u64 0] n=aU (List.replicate n 0):=by
 unfold aU
 induction n with
 |zero=>rfl
 |succ n ih=>simp[cP,ih,List.replicate_succ]
theorem nz:∀(ws:List Int),aU ws=ws.flatMap (Sh.cells (.int .u64))
 | []=>rfl
 |z::ws=>congrArg (AV.int .u64 z :: ·) (nz ws)
theorem Tq(n:Int)(σ:Hp):ACalls Tryz.prog 335 [.int .i64 n] σ (fun r σ'=>∃m,r=.int .i64 m∧σ'=σ):=by
 refine ao Tryz.func335 ?_;refine e9 ?_;refine ai (fun h1=>?_) (fun h1=>?_)
 ·have h1:32767<n.tmod 65536:=h1;exact .done ⟨_,rfl,rfl⟩
 ·have h1:¬(32767<n.tmod 65536):=h1;refine ai (fun h2=>?_) (fun h2=>?_)
  ·have h2:n.tmod 65536 < -32768:=h2;exact .done ⟨_,rfl,rfl⟩
  ·have h2:¬(n.tmod 65536 < -32768):=h2;exact .done ⟨_,rfl,rfl⟩
theorem agZ(a b:Int)(σ:Hp):ACalls Tryz.prog 309 [.int .i64 a,.int .i64 b] σ (fun r σ'=>∃x y,r=.agg [.int .i64 x,.int .i64 y]∧σ'=σ):=by
 refine ao Tryz.func309 ?_;intro b1
 (refine .mk [] _ (Tq _ _) ?_;rintro _ _ ⟨x,rfl,rfl⟩)
 (refine .mk [] _ (Tq _ _) ?_;rintro _ _ ⟨x,rfl,rfl⟩)
 refine ah 0 ?_;refine aa 0 ?_;exact .drop 0 1 (.done ⟨_,_,rfl,rfl⟩)
theorem BL{w:Int}{k m:Nat}(hk:min (Int.toNat (k:Int)) IntKind.u64.bits=m):w.fdiv (2 ^ min (Int.toNat (k:Int)) IntKind.u64.bits)=w / 2 ^ m:=by
 rw[hk];exact Int.fdiv_eq_ediv_of_nonneg _ (Int.le_of_lt (Int.pow_pos (by decide)))
theorem GA(w:Int):bits .and .u64 w 3=w % 4:=by
 show IntKind.u64.wrap ((BitVec.ofInt 64 w &&& BitVec.ofInt 64 3).toNat:Int)=_;have h3:(BitVec.ofInt 64 3:BitVec 64).toNat=2 ^ 2-1:=by decide
 rw[BitVec.toNat_and,h3,Ng,BitVec.toNat_ofInt,IntKind.wrap_u64];omega
def fI(w:Int):Bool:=decide (w % 4=2)&&decide (0≤w∧w<17179869184)
theorem acJ(w:Int)(σ:Hp):ACalls Tryz.prog 285 [.int .u64 w] σ (fun r σ'=>∃x y,r=.tup [.agg [.int .i64 x,.int .i64 y],.bool (decide (0≤w∧w<4294967296))]∧σ'=σ):=by
 have e:=BL (k:=32) (m:=32) (w:=w) (by decide);refine ao Tryz.func285 ?_;intro b1;refine e9 ?_;refine cO (fun h2=>?_) (fun h2=>?_)
 ·have h2:¬(w.fdiv (2 ^ min (Int.toNat 32) IntKind.u64.bits)=0):=by simpa using h2
  have hw:¬(0≤w∧w<4294967296):=fun h=>h2 (by rw[show w.fdiv (2 ^ min (Int.toNat 32) IntKind.u64.bits)=w / 2 ^ 32 from e];omega);refine ah 0 ?_;refine aa 0 ?_;exact .drop 0 1 (.done ⟨_,_,by rw[cp hw];rfl,rfl⟩)
 ·have h2:w.fdiv (2 ^ min (Int.toNat 32) IntKind.u64.bits)=0:=by simpa using h2
  have hw:0≤w∧w<4294967296:=by rw[show w.fdiv (2 ^ min (Int.toNat 32) IntKind.u64.bits)=w / 2 ^ 32 from e]at h2;omega
  refine e9 ?_
  (refine .mk [] _ (agZ _ _ _) ?_;rintro _ _ ⟨x,y,rfl,rfl⟩)
  refine ah 0 ?_;refine aa 0 ?_;exact .drop 0 1 (.done ⟨_,_,by rw[aX hw];rfl,rfl⟩)
theorem agW(w:Int)(σ:Hp):ACalls Tryz.prog 251 [.int .u64 w] σ (fun r σ'=>∃x y,r=.tup [.agg [.int .i64 x,.int .i64 y],.bool (fI w)]∧σ'=σ):=by
 have e:=BL (k:=2) (m:=2) (w:=w) (by decide);refine ao Tryz.func251 ?_;intro b1;refine cO (fun h2=>?_) (fun h2=>?_)
 ·have h2:¬(bits BinOp.and IntKind.u64 w 3=2):=by simpa using h2
  rw[GA]at h2;refine ah 0 ?_;refine aa 0 ?_;exact .drop 0 1 (.done ⟨_,_,by rw[show fI w=false by simp[fI,h2]];rfl,rfl⟩)
 ·have h2:bits BinOp.and IntKind.u64 w 3=2:=by simpa using h2
  rw[GA]at h2;refine e9 ?_;have e':w.fdiv (2 ^ min (Int.toNat 2) IntKind.u64.bits)=w / 4:=e;refine .mk [] _ (acJ _ _) ?_;rintro _ _ ⟨x,y,rfl,rfl⟩
  have hk:decide (0≤w.fdiv (2 ^ min (Int.toNat 2) IntKind.u64.bits)∧w.fdiv (2 ^ min (Int.toNat 2) IntKind.u64.bits)<4294967296)=fI w:=by
   rw[e',show fI w=decide (0≤w∧w<17179869184) by simp[fI,h2]];exact decide_eq_decide.2 (by omega)
  refine ah 0 ?_;refine aa 0 ?_;exact .drop 0 1 (.done ⟨_,_,by rw[hk];rfl,rfl⟩)
def cc(w:Int):Int:=if w=0 then 0 else if w=1 then 1 else if fI w then w else 1
theorem Jw{w:Int}(h:fI w=true):w≠0∧w≠1:=by
 unfold fI at h;simp at h;omega
theorem aIs(w:Int)(σ:Hp):ACalls Tryz.prog 202 [.int .u64 w] σ (ay (.bool (fI w||decide (w=0)||decide (w=1))) σ):=by
 refine ao Tryz.func202 ?_;refine .mk [] _ (agW w _) ?_;rintro _ _ ⟨x,y,rfl,rfl⟩;cases hn:fI w
 ·intro ax;refine ah 0 ?_;refine ai (fun c2=>?_) (fun c2=>?_)
  ·have c2:w=0:=c2;exact .drop 0 1 (.done ⟨bJ (by simp[*]),rfl⟩)
  ·have c2:¬(w=0):=c2;refine ai (fun c3=>?_) (fun c3=>?_)
   ·have c3:w=1:=c3;exact .drop 0 1 (.done ⟨bJ (by simp[*]),rfl⟩)
   ·have c3:¬(w=1):=c3;exact .drop 0 1 (.done ⟨bJ (by simp[*]),rfl⟩)
 ·intro ax;refine ah 0 ?_;exact .drop 0 1 (.done ⟨bJ (by simp[*]),rfl⟩)
theorem K4(w:Int)(σ:Hp):ACalls Tryz.prog 333 [.int .u64 w] σ (ay (.int .u64 (cc w)) σ):=by
 refine ao Tryz.func333 ?_;refine dc [] (aIs w σ) (fun h=>?_) (fun h=>?_)
 ·refine .done ⟨aQ ?_,rfl⟩;unfold cc;simp at h
  rcases h with (h | h) | h
  ·simp[h,Jw h]
  ·simp[h]
  ·simp[h]
 ·exact .done ⟨aQ (by unfold cc;simp at h;simp[h]),rfl⟩
def s8(a b:Int):Int:=if cc a=cc b∨cc b=0 then cc a else if cc a=0 then cc b else 1
theorem aeM(a b:Int)(σ:Hp):ACalls Tryz.prog 304 [.int .u64 a,.int .u64 b] σ (ay (.int .u64 (s8 a b)) σ):=by
 refine ao Tryz.func304 ?_;refine aw [] (K4 _ _) ?_;refine aw [] (K4 _ _) ?_;refine ai (fun c1=>?_) (fun c1=>?_)
 ·have c1:cc a=cc b:=c1;exact .done ⟨aQ (by unfold s8;split <;> (try split) <;> omega),rfl⟩
 ·have c1:¬(cc a=cc b):=c1;refine ai (fun c2=>?_) (fun c2=>?_)
  ·have c2:cc b=0:=c2;exact .done ⟨aQ (by unfold s8;split <;> (try split) <;> omega),rfl⟩
  ·have c2:¬(cc b=0):=c2;refine ai (fun c3=>?_) (fun c3=>?_)
   ·have c3:cc a=0:=c3;exact .done ⟨aQ (by unfold s8;split <;> (try split) <;> omega),rfl⟩
   ·have c3:¬(cc a=0):=c3;exact .done ⟨aQ (by unfold s8;split <;> (try split) <;> omega),rfl⟩
def kc(what a b:Int):Int:=if what=1 then bits .or .u64 a b else if what=2 then bits .and .u64 a b else if what=3 then s8 a b else 0
theorem K0(what a b:Int)(σ:Hp):ACalls Tryz.prog 279 [.int .i64 what,.int .u64 a,.int .u64 b] σ (ay (.int .u64 (kc what a b)) σ):=by
 refine ao Tryz.func279 ?_;refine ai (fun c1=>?_) (fun c1=>?_)
 ·have c1:what=1:=c1;exact .done ⟨aQ (by simp[kc, *]),rfl⟩
 ·have c1:¬(what=1):=c1;refine ai (fun c2=>?_) (fun c2=>?_)
  ·have c2:what=2:=c2;exact .done ⟨aQ (by simp[kc, *]),rfl⟩
  ·have c2:¬(what=2):=c2;refine ai (fun c3=>?_) (fun c3=>?_)
   ·have c3:what=3:=c3;refine aw [] (aeM _ _ _) ?_;exact .done ⟨aQ (by simp[kc, *]),rfl⟩
   ·have c3:¬(what=3):=c3;exact .done ⟨aQ (by simp[kc, *]),rfl⟩
theorem Sm(n:Int)(σ:Hp):ACalls Tryz.prog 261 [.int .i64 n] σ (fun r σ'=>∃m,r=.int .i64 m∧σ'=σ):=by
 refine ao Tryz.func261 ?_;refine e9 ?_;refine e9 ?_;exact .done ⟨_,rfl,rfl⟩
theorem afy(a b:Int)(σ:Hp):ACalls Tryz.prog 223 [.int .i64 a,.int .i64 b] σ (fun r σ'=>∃x y,r=.agg [.int .i64 x,.int .i64 y]∧σ'=σ):=by
 refine ao Tryz.func223 ?_;intro ax
 (refine .mk [] _ (Sm _ _) ?_;rintro _ _ ⟨x,rfl,rfl⟩)
 (refine .mk [] _ (Sm _ _) ?_;rintro _ _ ⟨x,rfl,rfl⟩)
 refine ah 0 ?_;refine aa 0 ?_;exact .drop 0 1 (.done ⟨_,_,rfl,rfl⟩)
theorem afw(w:Int)(σ:Hp)(h0:0≤w)(h2:w<18446744073709551616):ACalls Tryz.prog 179 [.int .u64 w] σ (fun r σ'=>∃x y,r=.tup [.agg [.int .i64 x,.int .i64 y],.bool (fI w)]∧σ'=σ):=by
 have e1:w.tmod 4=w % 4:=A9 h0;have e2:IntKind.u64.wrap (w.tdiv 4)=w / 4:=by rw[go2 h0,IntKind.wrap_u64];omega
 refine ao Tryz.func179 ?_;intro ax;refine e9 ?_;refine cO (fun c2=>?_) (fun c2=>?_)
 ·have c2:¬(w.tmod 4=2):=by simpa using c2
  refine ah 0 ?_;refine aa 0 ?_;exact .drop 0 1 (.done ⟨_,_,by rw[show fI w=false by unfold fI;simp;omega];rfl,rfl⟩)
 ·have c2:w.tmod 4=2:=by simpa using c2
  refine e9 ?_;refine ai (fun c3=>?_) (fun c3=>?_)
  ·have c3:4294967296≤IntKind.u64.wrap (w.tdiv 4):=c3;refine ah 0 ?_;refine aa 0 ?_;exact .drop 0 1 (.done ⟨_,_,by rw[show fI w=false by unfold fI;simp;omega];rfl,rfl⟩)
  ·have c3:¬(4294967296≤IntKind.u64.wrap (w.tdiv 4)):=c3;refine e9 ?_;refine e9 ?_;refine e9 ?_
   (refine .mk [] _ (afy _ _ _) ?_;rintro _ _ ⟨x,y,rfl,rfl⟩)
   refine ah 0 ?_;refine aa 0 ?_;exact .drop 0 1 (.done ⟨_,_,by rw[show fI w=true by unfold fI;simp;omega];rfl,rfl⟩)
theorem aew(w:Int)(σ:Hp)(h0:0≤w)(h2:w<18446744073709551616):ACalls Tryz.prog 129 [.int .u64 w] σ (ay (.int .u64 (cc w)) σ):=by
 refine ao Tryz.func129 ?_;refine .mk [] _ (afw w _ h0 h2) ?_;rintro _ _ ⟨x,y,rfl,rfl⟩;cases hn:fI w
 ·intro ax;refine ah 0 ?_;refine cO (fun c2=>?_) (fun c2=>?_)
  ·have c2:¬(w=0):=by simpa using c2
   exact .drop 0 1 (.done ⟨aQ (by simp[cc, *]),rfl⟩)
  ·have c2:w=0:=by simpa using c2
   exact .drop 0 1 (.done ⟨aQ (by simp[cc, *]),rfl⟩)
 ·have bf:=Jw hn;intro ax;refine ah 0 ?_;refine cO (fun c2=>?_) (fun c2=>?_)
  ·have c2:¬(w=0):=by simpa using c2
   exact .drop 0 1 (.done ⟨aQ (by simp[cc, *]),rfl⟩)
  ·have c2:w=0:=by simpa using c2
   exact .drop 0 1 (.done ⟨aQ (by simp[cc, *]),rfl⟩)
def wd(a:List Int)(i:Nat):Int:=(a[i]?).getD 0
def bO(z:Int):Prop:=0≤z∧z<18446744073709551616
def bC(l:List Int):Prop:=∀z∈l,bO z
theorem BI(n:Int):bO (IntKind.u64.wrap n):=by rw[IntKind.wrap_u64];unfold bO;omega
theorem R2{w:Int}(h:bO w):bO (cc w):=by
 unfold cc;split
 ·exact⟨by decide,by decide⟩
 ·split
  ·exact⟨by decide,by decide⟩
  ·split
   ·exact h
   ·exact⟨by decide,by decide⟩
theorem RB{what a b:Int}(ha:bO a)(hb:bO b):bO (kc what a b):=by
 unfold kc;split
 ·exact BI _
 ·split
  ·exact BI _
  ·split
   ·unfold s8;split
    ·exact R2 ha
    ·split
     ·exact R2 hb
     ·exact⟨by decide,by decide⟩
   ·exact⟨by decide,by decide⟩
theorem pO{l:List Int}(h:bC l)(i:Nat):bO (wd l i):=by
 unfold wd;cases hq:l[i]? with
 |none=>exact⟨by decide,by decide⟩
 |some x=>exact h x (dz hq)
def wL(ws:List Int)(a:Int):Bool:=decide (0≤a)&&decide (a<ws.length)
def eT(ws:List Int)(a:Int):Int:=if a<0 then 0 else ws.getD a.toNat 0
def gJ(ws:List Int)(a x:Int):List Int:=if a<0 then ws else ws.set a.toNat x
def kO(n:Int):Nat:=(min (max n 0) 1048576).toNat
theorem Sd(n:Int):kO n≤1048576:=by unfold kO;omega
theorem PJ{ws:List Int}{a:Int}(h:0≤a)(h1:a<ws.length):wL ws a=true:=by simp[wL,h,h1]
theorem Fc(a n:Int)(h:0≤a)(h1:a<n):(decide (0≤a)&&decide (a<n))=true:=by simp[h,h1]
theorem EY(a n:Int)(h:¬(0≤a∧a<n)):(decide (0≤a)&&decide (a<n))=false:=by simp;omega
theorem zo{ws:List Int}{a:Nat}:eT ws (a:Int)=ws.getD a 0:=by
 unfold eT;rw[aB (by omega)];rfl
theorem Yj{ws:List Int}{a:Int}(h:¬(0≤a∧a<(ws.length:Int))):eT ws a=0:=by
 unfold eT;split
 ·rfl
 ·rw[List.getD,sE (by omega)];rfl
theorem ou{ws:List Int}{a:Nat}(x:Int):gJ ws (a:Int) x=ws.set a x:=by
 unfold gJ;rw[aB (by omega)];rfl
theorem Ws{ws:List Int}{a x:Int}(h:¬(0≤a∧a<(ws.length:Int))):gJ ws a x=ws:=by
 unfold gJ;split
 ·rfl
 ·exact List.set_eq_of_length_le (by omega)
theorem zb(ws:List Int)(a x:Int):(gJ ws a x).length=ws.length:=by unfold gJ;split <;> simp
def tg(ws:List Int)(a old:Int):Bool:=wL ws a&&(eT ws a == old)
def mP(ws:List Int)(a old to:Int):List Int:=if tg ws a old then gJ ws a to else ws
theorem vO(ws:List Int)(a o t:Int):(mP ws a o t).length=ws.length:=by unfold mP;split <;> simp[zb]
def Ak(ws:List Int)(a d:Int):Int:=if wL ws a then (eT ws a+d) % 18446744073709551616 else 0
def rQ(ws:List Int)(a d:Int):List Int:=if wL ws a then gJ ws a ((eT ws a+d) % 18446744073709551616) else ws
theorem NK(ws:List Int)(a d:Int):(rQ ws a d).length=ws.length:=by unfold rQ;split <;> simp[zb]
def o7(q n:Nat):List AV:=[.int .i64 n,.af q 0 n 1]
theorem Fm{ws:List Int}{k:Nat}(h:k<ws.length):(aU ws)[0+((k:Int)).toNat*1]?=some (.int .u64 (ws.getD k 0)):=by
 simp[aU,h,List.getD]
theorem abc{ws:List Int}{k:Nat}(x:Int):(aU ws).set k (.int .u64 x)=aU (ws.set k x):=by simp[aU,List.map_set]
theorem JK{ws:List Int}{k:Nat}(x:Int)(h:k<ws.length):kC ⟨.int .u64,1,8,[.int .u64 0]⟩ (aU ws) (0+((k:Int)).toNat*1) (.int .u64 x)=some (aU (ws.set k x)):=by
 have e:0+((k:Int)).toNat*1=k:=by omega
 have h2:Nat.ble (k+1) (aU ws).length=true:=Nat.ble_eq_true_of_le (by simp[aU];omega);rw[e];show (match Nat.beq 1 1,Nat.ble (k+1) (aU ws).length with | true,true=>some (fG (aU ws) k [.int .u64 x]) | _,_=>none)=_;rw[h2];show some ((aU ws).set k (.int .u64 x))=_;rw[abc]
theorem G5(n a:Int)(σ:Hp):ACalls Tryz.prog 387 [.agg [.int .i64 n],.int .i64 a] σ (ay (.bool (decide (0≤a)&&decide (a<n))) σ):=by
 refine ao Tryz.func387 ?_;intro b;refine ai (fun h=>?_) (fun h=>?_)
 ·refine aa 0 ?_;refine ai (fun h2=>?_) (fun h2=>?_)
  ·exact .drop 0 1 (.done ⟨bJ (by simp[h,h2]),rfl⟩)
  ·exact .drop 0 1 (.done ⟨bJ (by simp[h2]),rfl⟩)
 ·exact .drop 0 1 (.done ⟨bJ (by simp[h]),rfl⟩)
theorem UX(n:Int)(σ:Hp):ACalls Tryz.prog 155 [.int .i64 n] σ (ay (.agg [.int .i64 (kO n)]) σ):=by
 refine ao Tryz.func155 ?_;intro b;refine ah 0 ?_;refine aa 0 ?_;refine .drop 0 1 (.done ⟨?_,rfl⟩);show AV.agg [.int .i64 (if (1048576:Int)<(if n<0 then 0 else n) then 1048576 else (if n<0 then 0 else n))]=_
 have e:(if (1048576:Int)<(if n<0 then 0 else n) then 1048576 else (if n<0 then 0 else n))=((kO n:Nat):Int):=by
  unfold kO
  by_cases h:n<0
  ·simp only[az h];omega
  ·simp only[aB h];split <;> omega
 rw[e]
theorem LF(n:Int)(σ:Hp):ACalls Tryz.prog 90 [.int .i64 n] σ (fun r σ'=>∃p q,r=.ptr p 0∧σ'=(p,o7 q (kO n))::(q,aU (List.replicate (kO n) 0))::σ):=by
 have hc:=Sd n;refine ao Tryz.func90 ?_;refine aw [] (UX n σ) ?_;refine aw [] (UX n σ) ?_;refine aF.mk ⟨by omega,kU _,by omega,by decide⟩ ?_;intro q p;refine .done ⟨p,q,rfl,?_⟩;show (p,_)::(q,_)::σ=_;rw[show ((kO n:Int)).toNat=kO n by omega,show (cP [AV.int .u64 0] (kO n))=_ from zt _];rfl
theorem aLoad(p q:Nat)(ws:List Int)(a:Int)(σ:Hp):ACalls Tryz.prog 385 [.ptr p 0,.int .i64 a] ((p,o7 q ws.length)::(q,aU ws)::σ) (ay (.int .u64 (eT ws a)) ((p,o7 q ws.length)::(q,aU ws)::σ)):=by
 refine ao Tryz.func385 ?_;refine aa 0 ?_;refine aw [] (G5 ws.length a _) ?_
 by_cases hh:0≤a∧a<(ws.length:Int)
 ·rw[Fc a ws.length hh.1 hh.2];obtain⟨k,rfl⟩:=qx hh.1;have hk:k<ws.length:=by omega
  refine aa 0 ?_;refine aF.mk ⟨rfl,hh.1,hh.2⟩ ?_;refine aS 1 rfl (Fm hk) ?_;exact .done ⟨aQ zo.symm,rfl⟩
 ·rw[EY a ws.length hh];exact .done ⟨aQ (Yj hh).symm,rfl⟩
abbrev bN(p q:Nat)(ws:List Int)(σ:Hp):Hp:=(p,o7 q ws.length)::(q,aU ws)::σ
theorem aStore(p q:Nat)(ws:List Int)(a x:Int)(σ:Hp):ACalls Tryz.prog 386 [.ptr p 0,.int .i64 a,.int .u64 x] (bN p q ws σ) (ay (.tup []) (bN p q (gJ ws a x) σ)):=by
 refine ao Tryz.func386 ?_;refine aa 0 ?_;refine aw [] (G5 ws.length a _) ?_
 by_cases hh:0≤a∧a<(ws.length:Int)
 ·rw[Fc a ws.length hh.1 hh.2];obtain⟨k,rfl⟩:=qx hh.1;have hk:k<ws.length:=by omega
  refine aa 0 ?_;refine aF.mk ⟨rfl,hh.1,hh.2⟩ ?_;refine bM 1 rfl (JK x hk) ?_;refine .done ⟨rfl,?_⟩;show (p,o7 q ws.length)::(q,aU (ws.set k x))::σ=_;rw[ou];unfold bN;rw[dY]
 ·rw[EY a ws.length hh];refine .done ⟨rfl,?_⟩;rw[Ws hh];rfl
theorem aCas(p q:Nat)(ws:List Int)(a x y:Int)(σ:Hp):ACalls Tryz.prog 383 [.ptr p 0,.int .i64 a,.int .u64 x,.int .u64 y] (bN p q ws σ) (ay (.bool (tg ws a x)) (bN p q (mP ws a x y) σ)):=by
 refine ao Tryz.func383 ?_;refine aa 0 ?_;refine aw [] (G5 ws.length a _) ?_
 by_cases hh:0≤a∧a<(ws.length:Int)
 ·rw[Fc a ws.length hh.1 hh.2];have hH:=PJ hh.1 hh.2;obtain⟨k,rfl⟩:=qx hh.1;have hk:k<ws.length:=by omega
  refine aa 0 ?_;refine aF.mk ⟨rfl,hh.1,hh.2⟩ ?_;refine aS 1 rfl (Fm hk) ?_;refine cO (fun he=>?_) (fun he=>?_)
  ·have he:¬ws.getD k 0=x:=by simpa using he
   have e1:tg ws k x=false:=by unfold tg;rw[hH,zo];simpa using he
   refine .done ⟨by rw[e1];rfl,?_⟩;rw[show mP ws k x y=ws by simp[mP,e1]];rfl
  ·have he:ws.getD k 0=x:=by simpa using he
   have e1:tg ws k x=true:=by unfold tg;rw[hH,zo,he];simp
   refine aa 0 ?_;refine aF.mk ⟨rfl,hh.1,hh.2⟩ ?_;refine bM 1 rfl (JK y hk) ?_;refine .done ⟨by rw[e1];rfl,?_⟩;show (p,o7 q ws.length)::(q,aU (ws.set k y))::σ=_;rw[show mP ws k x y=ws.set k y by simp[mP,e1,ou]];unfold bN;rw[List.length_set]
 ·have hb:=EY a ws.length hh;rw[hb];have e1:tg ws a x=false:=by simp only[tg,wL,hb,DW]
  refine .done ⟨by rw[e1];rfl,?_⟩;rw[show mP ws a x y=ws by simp[mP,e1]];rfl
theorem aAdd(p q:Nat)(ws:List Int)(a d:Int)(σ:Hp):ACalls Tryz.prog 382 [.ptr p 0,.int .i64 a,.int .u64 d] (bN p q ws σ) (ay (.int .u64 (Ak ws a d)) (bN p q (rQ ws a d) σ)):=by
 refine ao Tryz.func382 ?_;refine aa 0 ?_;refine aw [] (G5 ws.length a _) ?_
 by_cases hh:0≤a∧a<(ws.length:Int)
 ·rw[Fc a ws.length hh.1 hh.2];have hH:=PJ hh.1 hh.2;obtain⟨k,rfl⟩:=qx hh.1;have hk:k<ws.length:=by omega
  have e1:Ak ws k d=IntKind.u64.wrap (ws.getD k 0+d):=by rw[IntKind.wrap_u64];simp only[Ak,hH,if_true,zo]
  have e2:rQ ws k d=ws.set k (IntKind.u64.wrap (ws.getD k 0+d)):=by rw[IntKind.wrap_u64];simp only[rQ,hH,if_true,zo,ou]
  refine aa 0 ?_;refine aF.mk ⟨rfl,hh.1,hh.2⟩ ?_;refine aS 1 rfl (Fm hk) ?_;refine aF.mk ⟨rfl,hh.1,hh.2⟩ ?_;refine bM 1 rfl (JK _ hk) ?_;refine aa 0 ?_;refine aF.mk ⟨rfl,hh.1,hh.2⟩ ?_;refine aS 1 rfl (Fm (ws:=ws.set k (IntKind.u64.wrap (ws.getD k 0+d))) (by rw[dY];exact hk)) ?_;refine .done ⟨aQ (by rw[e1];simp[List.getD,hk]),?_⟩;rw[e2];unfold bN;rw[dY];rfl
 ·have hb:=EY a ws.length hh;rw[hb];refine .done ⟨aQ (by unfold Ak;unfold wL;rw[hb];rfl),?_⟩;rw[show rQ ws a d=ws by unfold rQ wL;rw[hb];rfl];rfl
theorem aLen(p q:Nat)(ws:List Int)(σ:Hp):ACalls Tryz.prog 384 [.ptr p 0] (bN p q ws σ) (ay (.int .i64 ws.length) (bN p q ws σ)):=by
 refine ao Tryz.func384 ?_;refine aa 0 ?_;exact .done ⟨rfl,rfl⟩
theorem mLen_ : Meth Tryz.prog 94 "Len" 384 := fun a w => by kernel_rfl
theorem mLoad_ : Meth Tryz.prog 94 "Load" 385 := fun a w => by kernel_rfl
theorem mStore_ : Meth Tryz.prog 94 "Store" 386 := fun a w => by kernel_rfl
theorem mCAS_ : Meth Tryz.prog 94 "CAS" 383 := fun a w => by kernel_rfl
theorem mAdd_ : Meth Tryz.prog 94 "Add" 382 := fun a w => by kernel_rfl
theorem hStore_ {b o : Nat} : AheadOk Tryz.prog 94 "Store" (.ptr b o) := fun a w => by kernel_rfl
theorem hCAS_ {b o : Nat} : AheadOk Tryz.prog 94 "CAS" (.ptr b o) := fun a w => by kernel_rfl
theorem hAdd_ {b o : Nat} : AheadOk Tryz.prog 94 "Add" (.ptr b o) := fun a w => by kernel_rfl
theorem hLoad_ {b o : Nat} : AheadOk Tryz.prog 94 "Load" (.ptr b o) := fun a w => by kernel_rfl
abbrev km(p:Nat):AV:=.iface 94 (.ptr p 0)
theorem dI(t:Nat)(x:AV)(σ:Hp):ACalls Tryz.prog 110 [.iface t x] σ (ay (.iface t x) σ):=by
 refine ao Tryz.func110 ?_;exact .done ⟨rfl,rfl⟩
structure ja where
 A:Type
 ld:A→Int→Int×A
 st:A→Int→Int→A
 cs:A→Int→Int→Int→Bool×A
 ad:A→Int→Int→Int×A
 ln:A→Int
 free:A→Prop
abbrev bR:ja where
 A:=List Int
 ld ws a:=(eT ws a,ws)
 st ws a x:=gJ ws a x
 cs ws a x y:=(tg ws a x,mP ws a x y)
 ad ws a d:=(Ak ws a d,rQ ws a d)
 ln ws:=ws.length
 free _:=True
structure AMem where
 O:ja
 S:Type
 abs:S→O.A
 B:S→Hp
 t:TypeId
 x0:AV
 p:Nat
 load : ∃ g, MethX Tryz.prog t "Load" x0 g (.ptr p 0) ∧ ∀ (s : S) (a : Int) (σ : Hp), O.free (abs s) → ACalls Tryz.prog g [.ptr p 0, .int .i64 a] (B s ++ σ) (fun r σ' => ∃ s', abs s' = (O.ld (abs s) a).2 ∧ r = .int .u64 (O.ld (abs s) a).1 ∧ σ' = B s' ++ σ)
 store : ∃ g, MethX Tryz.prog t "Store" x0 g (.ptr p 0) ∧ ∀ (s : S) (a x : Int) (σ : Hp), O.free (abs s) → ACalls Tryz.prog g [.ptr p 0, .int .i64 a, .int .u64 x] (B s ++ σ) (fun r σ' => ∃ s', abs s' = O.st (abs s) a x ∧ r = .tup [] ∧ σ' = B s' ++ σ)
 cas : ∃ g, MethX Tryz.prog t "CAS" x0 g (.ptr p 0) ∧ ∀ (s : S) (a x y : Int) (σ : Hp), O.free (abs s) → ACalls Tryz.prog g [.ptr p 0, .int .i64 a, .int .u64 x, .int .u64 y] (B s ++ σ) (fun r σ' => ∃ s', abs s' = (O.cs (abs s) a x y).2 ∧ r = .bool (O.cs (abs s) a x y).1 ∧ σ' = B s' ++ σ)
 add : ∃ g, MethX Tryz.prog t "Add" x0 g (.ptr p 0) ∧ ∀ (s : S) (a d : Int) (σ : Hp), O.free (abs s) → ACalls Tryz.prog g [.ptr p 0, .int .i64 a, .int .u64 d] (B s ++ σ) (fun r σ' => ∃ s', abs s' = (O.ad (abs s) a d).2 ∧ r = .int .u64 (O.ad (abs s) a d).1 ∧ σ' = B s' ++ σ)
 hL : AheadOk Tryz.prog t "Load" x0
 hS : AheadOk Tryz.prog t "Store" x0
 hC : AheadOk Tryz.prog t "CAS" x0
 hA : AheadOk Tryz.prog t "Add" x0
 len : ∃ g, MethX Tryz.prog t "Len" x0 g (.ptr p 0) ∧ ∀ (s : S) (σ : Hp), ACalls Tryz.prog g [.ptr p 0] (B s ++ σ) (fun r σ' => ∃ s', abs s' = abs s ∧ r = .int .i64 (O.ln (abs s)) ∧ σ' = B s' ++ σ)
abbrev AMem.v(M:AMem):AV:=.iface M.t M.x0
theorem ot(fr b σ:Hp):(b++(fr++σ)).Perm (fr++(b++σ)):=by
 rw[← cU,← cU];exact List.Perm.append_right _ H4
section
variable (M:AMem) (fr:Hp) {s:M.S} {σ:Hp} {K:AV→Hp→Prop}
theorem AMem.aLoad {a : Int} (hf : M.O.free (M.abs s)) (k : ∀ s', M.abs s' = (M.O.ld (M.abs s) a).2 → K (.int .u64 (M.O.ld (M.abs s) a).1) (fr ++ (M.B s' ++ σ))) : InvAt Tryz.prog M.t "Load" M.x0 fun g u => CallAt Tryz.prog g K [u, .int .i64 a] (fr ++ (M.B s ++ σ)) := by
 obtain⟨g,h1,h2⟩:=M.load;refine .Ax g _ h1 (.perm _ (ot fr (M.B s) σ) (h2 s a (fr++σ) hf) ?_);rintro r σ' ⟨s',h3,rfl,rfl⟩;exact⟨_,(ot fr (M.B s') σ).symm,k s' h3⟩
theorem AMem.aStore {a x : Int} (hf : M.O.free (M.abs s)) (k : ∀ s', M.abs s' = M.O.st (M.abs s) a x → K (.tup []) (fr ++ (M.B s' ++ σ))) : InvAt Tryz.prog M.t "Store" M.x0 fun g u => CallAt Tryz.prog g K [u, .int .i64 a, .int .u64 x] (fr ++ (M.B s ++ σ)) := by
 obtain⟨g,h1,h2⟩:=M.store;refine .Ax g _ h1 (.perm _ (ot fr (M.B s) σ) (h2 s a x (fr++σ) hf) ?_);rintro r σ' ⟨s',h3,rfl,rfl⟩;exact⟨_,(ot fr (M.B s') σ).symm,k s' h3⟩
theorem AMem.aCas {a x y : Int} (hf : M.O.free (M.abs s)) (k : ∀ s', M.abs s' = (M.O.cs (M.abs s) a x y).2 → K (.bool (M.O.cs (M.abs s) a x y).1) (fr ++ (M.B s' ++ σ))) : InvAt Tryz.prog M.t "CAS" M.x0 fun g u => CallAt Tryz.prog g K [u, .int .i64 a, .int .u64 x, .int .u64 y] (fr ++ (M.B s ++ σ)) := by
 obtain⟨g,h1,h2⟩:=M.cas;refine .Ax g _ h1 (.perm _ (ot fr (M.B s) σ) (h2 s a x y (fr++σ) hf) ?_);rintro r σ' ⟨s',h3,rfl,rfl⟩;exact⟨_,(ot fr (M.B s') σ).symm,k s' h3⟩
theorem AMem.aCasB {a x y : Int} (hf : M.O.free (M.abs s)) (k1 : ∀ s', M.abs s' = (M.O.cs (M.abs s) a x y).2 → (M.O.cs (M.abs s) a x y).1 = true → K (.bool true) (fr ++ (M.B s' ++ σ))) (k2 : ∀ s', M.abs s' = (M.O.cs (M.abs s) a x y).2 → (M.O.cs (M.abs s) a x y).1 = false → K (.bool false) (fr ++ (M.B s' ++ σ))) : InvAt Tryz.prog M.t "CAS" M.x0 fun g u => CallAt Tryz.prog g K [u, .int .i64 a, .int .u64 x, .int .u64 y] (fr ++ (M.B s ++ σ)) :=
 M.aCas fr hf fun s' h=>by
  cases hb:(M.O.cs (M.abs s) a x y).1 with
  |true=>exact k1 s' h hb
  |false=>exact k2 s' h hb
theorem AMem.aAdd {a d : Int} (hf : M.O.free (M.abs s)) (k : ∀ s', M.abs s' = (M.O.ad (M.abs s) a d).2 → K (.int .u64 (M.O.ad (M.abs s) a d).1) (fr ++ (M.B s' ++ σ))) : InvAt Tryz.prog M.t "Add" M.x0 fun g u => CallAt Tryz.prog g K [u, .int .i64 a, .int .u64 d] (fr ++ (M.B s ++ σ)) := by
 obtain⟨g,h1,h2⟩:=M.add;refine .Ax g _ h1 (.perm _ (ot fr (M.B s) σ) (h2 s a d (fr++σ) hf) ?_);rintro r σ' ⟨s',h3,rfl,rfl⟩;exact⟨_,(ot fr (M.B s') σ).symm,k s' h3⟩
theorem AMem.aLen (k : ∀ s', M.abs s' = M.abs s → K (.int .i64 (M.O.ln (M.abs s))) (fr ++ (M.B s' ++ σ))) : InvAt Tryz.prog M.t "Len" M.x0 fun g u => CallAt Tryz.prog g K [u] (fr ++ (M.B s ++ σ)) := by
 obtain⟨g,h1,h2⟩:=M.len;refine .Ax g _ h1 (.perm _ (ot fr (M.B s) σ) (h2 s (fr++σ)) ?_);rintro r σ' ⟨s',h3,rfl,rfl⟩;exact⟨_,(ot fr (M.B s') σ).symm,k s' h3⟩
end
def cT(p q:Nat):AMem where
 O:=bR
 S:=List Int
 abs ws:=ws
 B ws:=[(p,o7 q ws.length),(q,aU ws)]
 t:=94
 x0:=.ptr p 0
 p:=p
 load:=⟨_,⟨mLoad_,rfl⟩,fun ws a σ _=>(Go.Proofs.YtnikdflhefijbaaGreat.aLoad p q ws a σ).mono fun _ _ h=>⟨ws,rfl,h.1,h.2⟩⟩
 store:=⟨_,⟨mStore_,rfl⟩,fun ws a x σ _=>(Go.Proofs.YtnikdflhefijbaaGreat.aStore p q ws a x σ).mono fun _ _ h=>⟨_,rfl,h.1,h.2⟩⟩
 cas:=⟨_,⟨mCAS_,rfl⟩,fun ws a x y σ _=>(Go.Proofs.YtnikdflhefijbaaGreat.aCas p q ws a x y σ).mono fun _ _ h=>⟨_,rfl,h.1,h.2⟩⟩
 add:=⟨_,⟨mAdd_,rfl⟩,fun ws a d σ _=>(Go.Proofs.YtnikdflhefijbaaGreat.aAdd p q ws a d σ).mono fun _ _ h=>⟨_,rfl,h.1,h.2⟩⟩
 hL:=hLoad_
 hS:=hStore_
 hC:=hCAS_
 hA:=hAdd_
 len:=⟨_,⟨mLen_,rfl⟩,fun ws σ=>(Go.Proofs.YtnikdflhefijbaaGreat.aLen p q ws σ).mono fun _ _ h=>⟨ws,rfl,h.1,h.2⟩⟩
structure Ev where
 kind:Int
 at_:Int
 a:Int
 b:Int
 got:Int
 ok:Bool
deriving DecidableEq
def gy(e:Ev):List AV:=[.int .i64 e.kind,.int .i64 e.at_,.int .u64 e.a,.int .u64 e.b,.int .u64 e.got,.bool e.ok]
def ga:Sh:=.field (.int .i64) (.field (.int .i64) (.field (.int .u64) (.field (.int .u64) (.field (.int .u64) (.field .bool .nil)))))
abbrev lE:Type:=Int×Int×Int×Int×Int×Bool×Unit
def Ev.d(e:Ev):lE:=(e.kind,e.at_,e.a,e.b,e.got,e.ok,())
theorem BV:∀(l:List Ev),l.flatMap gy=(l.map Ev.d).flatMap (fun d:lE=>ga.cells d)
 | []=>rfl
 |e::l=>by
  show gy e++l.flatMap gy=ga.cells e.d++((l.map Ev.d).flatMap fun d:lE=>ga.cells d);rw[BV l];rfl
inductive LC:AV→Hp→List Ev→Prop where
 |nil:LC .ag [] []
 |acc (v:AV) (acc:Hp) (es:List Ev) (h:Acc 6 es.length v acc (es.flatMap gy)):LC (.via v) acc es
theorem GD(r:Nat)(mv c:AV)(acc:Hp)(es:List Ev)(e:Ev)(σ:Hp)(h:LC c acc es)(hl:es.length<1000000):ACalls Tryz.prog 157 [.ptr r 0,.agg (gy e)] ((r,[mv,c])::(acc++σ)) (fun x σ'=>x=.tup []∧∃c' aJ,LC c' aJ (es++[e])∧σ'=(r,[mv,c'])::(aJ++σ)):=by
 have fin:∀v' aJ,Acc 6 (es.length+1) v' aJ (es.flatMap gy++gy e)→LC (.via v') aJ (es++[e]):=fun v' aJ h'=>by
  refine .acc _ _ _ ?_;rw[sF,bB];simpa using h'
 cases h with
 |nil=>
  refine ao Tryz.func157 ?_;intro b;refine .each (by kernel_rfl) ?_
  repeat' first
   |refine And.intro ?_ ?_
   |refine aa 1 ?_
   |refine aa 0 ?_
   |refine aa 2 ?_
   |intro b1
  all_goals
   refine eS [_,_,_] .nil (.af 0 _ 0 1 _ rfl (cj rfl)) rfl (by decide) (by decide) (by decide) (fun v' aJ h'=>?_);refine ah 2 ?_;exact .drop 0 2 (.done ⟨rfl,_,_,fin v' aJ h',rfl⟩)
 |acc v acc es h=>
  refine ao Tryz.func157 ?_;intro b;refine .each (by kernel_rfl) ?_
  repeat' first
   |refine And.intro ?_ ?_
   |refine aa 1 ?_
   |refine aa 0 ?_
   |refine aa 2 ?_
   |intro b1
  all_goals
   refine eS [_,_,_] h (.af 0 _ 0 1 _ rfl (cj rfl)) rfl (by omega) (by decide) (by decide) (fun v' aJ h'=>?_);refine ah 2 ?_;exact .drop 0 2 (.done ⟨rfl,_,_,fin v' aJ h',rfl⟩)
theorem Cy(r t:Nat)(x c:AV)(σ:Hp):ACalls Tryz.prog 156 [.ptr r 0] ((r,[.iface t x,c])::σ) (ay (.bool true) ((r,[.iface t x,c])::σ)):=by
 refine ao Tryz.func156 ?_;refine aa 0 ?_;exact .done ⟨rfl,rfl⟩
theorem Sn(M:AMem)(σ:Hp):ACalls Tryz.prog 89 [M.v] σ (fun x σ'=>∃r,x=.ptr r 0∧σ'=(r,[M.v,.ag])::σ):=by
 refine ao Tryz.func89 ?_;intro r;exact .done ⟨r,rfl,rfl⟩
def fW(O:ja):ja where
 A:=O.A×List Ev
 ld a x:=((O.ld a.1 x).1,(O.ld a.1 x).2,a.2++[⟨1,x,0,0,(O.ld a.1 x).1,false⟩])
 st a x w:=(O.st a.1 x w,a.2++[⟨2,x,w,0,0,false⟩])
 cs a x u w:=((O.cs a.1 x u w).1,(O.cs a.1 x u w).2,a.2++[⟨3,x,u,w,0,(O.cs a.1 x u w).1⟩])
 ad a x d:=((O.ad a.1 x d).1,(O.ad a.1 x d).2,a.2++[⟨4,x,d,0,(O.ad a.1 x d).1,false⟩])
 ln a:=O.ln a.1
 free a:=O.free a.1∧a.2.length<1000000
structure jm(M:AMem) where
 m:M.S
 es:List Ev
 c:AV
 acc:Hp
 h:LC c acc es
section
variable (M:AMem) (r:Nat)
theorem JI(s:jm M)(a:Int)(σ:Hp)(hf:M.O.free (M.abs s.m))(hl:s.es.length<1000000):ACalls Tryz.prog 91 [.ptr r 0,.int .i64 a] ((r,[M.v,s.c])::(s.acc++(M.B s.m++σ)))
  (fun x σ'=>∃s':jm M,M.abs s'.m=(M.O.ld (M.abs s.m) a).2∧s'.es=s.es++[⟨1,a,0,0,(M.O.ld (M.abs s.m) a).1,false⟩]∧x=.int .u64 (M.O.ld (M.abs s.m) a).1∧σ'=(r,[M.v,s'.c])::(s'.acc++(M.B s'.m++σ))):=by
 refine ao Tryz.func91 ?_;refine aw [] (Cy r _ _ _ _) ?_;refine aa 0 ?_;refine M.aLoad ((_,_)::s.acc) hf fun m' hm=>?_;refine .mk [] _ (GD r M.v s.c s.acc s.es ⟨1,a,0,0,(M.O.ld (M.abs s.m) a).1,false⟩ (M.B m'++σ) s.h hl) ?_;rintro _ _ ⟨rfl,c',aJ,h',rfl⟩;exact .done ⟨⟨m',_,c',aJ,h'⟩,hm,rfl,rfl,rfl⟩
theorem Jj(s:jm M)(a w:Int)(σ:Hp)(hf:M.O.free (M.abs s.m))(hl:s.es.length<1000000):ACalls Tryz.prog 92 [.ptr r 0,.int .i64 a,.int .u64 w] ((r,[M.v,s.c])::(s.acc++(M.B s.m++σ)))
  (fun x σ'=>∃s':jm M,M.abs s'.m=M.O.st (M.abs s.m) a w∧s'.es=s.es++[⟨2,a,w,0,0,false⟩]∧x=.tup []∧σ'=(r,[M.v,s'.c])::(s'.acc++(M.B s'.m++σ))):=by
 refine ao Tryz.func92 ?_;refine aw [] (Cy r _ _ _ _) ?_;refine aa 0 ?_;refine M.aStore ((_,_)::s.acc) hf fun m' hm=>?_;refine .mk [] _ (GD r M.v s.c s.acc s.es ⟨2,a,w,0,0,false⟩ (M.B m'++σ) s.h hl) ?_;rintro _ _ ⟨rfl,c',aJ,h',rfl⟩;exact .done ⟨⟨m',_,c',aJ,h'⟩,hm,rfl,rfl,rfl⟩
theorem Kb(s:jm M)(a x y:Int)(σ:Hp)(hf:M.O.free (M.abs s.m))(hl:s.es.length<1000000):ACalls Tryz.prog 93 [.ptr r 0,.int .i64 a,.int .u64 x,.int .u64 y] ((r,[M.v,s.c])::(s.acc++(M.B s.m++σ)))
  (fun z σ'=>∃s':jm M,M.abs s'.m=(M.O.cs (M.abs s.m) a x y).2∧s'.es=s.es++[⟨3,a,x,y,0,(M.O.cs (M.abs s.m) a x y).1⟩]∧z=.bool (M.O.cs (M.abs s.m) a x y).1∧σ'=(r,[M.v,s'.c])::(s'.acc++(M.B s'.m++σ))):=by
 refine ao Tryz.func93 ?_;refine aw [] (Cy r _ _ _ _) ?_;refine aa 0 ?_;refine M.aCas ((_,_)::s.acc) hf fun m' hm=>?_;refine .mk [] _ (GD r M.v s.c s.acc s.es ⟨3,a,x,y,0,(M.O.cs (M.abs s.m) a x y).1⟩ (M.B m'++σ) s.h hl) ?_;rintro _ _ ⟨rfl,c',aJ,h',rfl⟩;exact .done ⟨⟨m',_,c',aJ,h'⟩,hm,rfl,rfl,rfl⟩
theorem Kc(s:jm M)(a d:Int)(σ:Hp)(hf:M.O.free (M.abs s.m))(hl:s.es.length<1000000):ACalls Tryz.prog 94 [.ptr r 0,.int .i64 a,.int .u64 d] ((r,[M.v,s.c])::(s.acc++(M.B s.m++σ)))
  (fun x σ'=>∃s':jm M,M.abs s'.m=(M.O.ad (M.abs s.m) a d).2∧s'.es=s.es++[⟨4,a,d,0,(M.O.ad (M.abs s.m) a d).1,false⟩]∧x=.int .u64 (M.O.ad (M.abs s.m) a d).1∧σ'=(r,[M.v,s'.c])::(s'.acc++(M.B s'.m++σ))):=by
 refine ao Tryz.func94 ?_;refine aw [] (Cy r _ _ _ _) ?_;refine aa 0 ?_;refine M.aAdd ((_,_)::s.acc) hf fun m' hm=>?_;refine .mk [] _ (GD r M.v s.c s.acc s.es ⟨4,a,d,0,(M.O.ad (M.abs s.m) a d).1,false⟩ (M.B m'++σ) s.h hl) ?_;rintro _ _ ⟨rfl,c',aJ,h',rfl⟩;exact .done ⟨⟨m',_,c',aJ,h'⟩,hm,rfl,rfl,rfl⟩
theorem Sp(s:jm M)(σ:Hp):ACalls Tryz.prog 388 [.ptr r 0] ((r,[M.v,s.c])::(s.acc++(M.B s.m++σ)))
  (fun x σ'=>∃s':jm M,M.abs s'.m=M.abs s.m∧s'.es=s.es∧x=.int .i64 (M.O.ln (M.abs s.m))∧σ'=(r,[M.v,s'.c])::(s'.acc++(M.B s'.m++σ))):=by
 refine ao Tryz.func388 ?_;refine aw [] (Cy r _ _ _ _) ?_;refine aa 0 ?_;refine M.aLen ((_,_)::s.acc) fun m' hm=>?_;exact .done ⟨⟨m',_,s.c,s.acc,s.h⟩,hm,rfl,rfl,rfl⟩
end
theorem lLen_ : Meth Tryz.prog 141 "Len" 388 := fun a w => by kernel_rfl
theorem lLoad_ : Meth Tryz.prog 141 "Load" 91 := fun a w => by kernel_rfl
theorem lStore_ : Meth Tryz.prog 141 "Store" 92 := fun a w => by kernel_rfl
theorem lCAS_ : Meth Tryz.prog 141 "CAS" 93 := fun a w => by kernel_rfl
theorem lAdd_ : Meth Tryz.prog 141 "Add" 94 := fun a w => by kernel_rfl
theorem kStore_ {b o : Nat} : AheadOk Tryz.prog 141 "Store" (.ptr b o) := fun a w => by kernel_rfl
theorem kCAS_ {b o : Nat} : AheadOk Tryz.prog 141 "CAS" (.ptr b o) := fun a w => by kernel_rfl
theorem kAdd_ {b o : Nat} : AheadOk Tryz.prog 141 "Add" (.ptr b o) := fun a w => by kernel_rfl
theorem kLoad_ {b o : Nat} : AheadOk Tryz.prog 141 "Load" (.ptr b o) := fun a w => by kernel_rfl
def ym(M:AMem)(r:Nat):AMem where
 O:=fW M.O
 S:=jm M
 abs s:=(M.abs s.m,s.es)
 B s:=(r,[M.v,s.c])::(s.acc++M.B s.m)
 t:=141
 x0:=.ptr r 0
 p:=r
 load:=⟨_,⟨lLoad_,rfl⟩,fun s a σ hf=>by
  have:=JI M r s a σ hf.1 hf.2;rw[← cU]at this;refine this.mono ?_;rintro _ _ ⟨s',h1,h2,rfl,rfl⟩
  exact⟨s',Prod.ext h1 h2,rfl,by simp⟩⟩
 store:=⟨_,⟨lStore_,rfl⟩,fun s a x σ hf=>by
  have:=Jj M r s a x σ hf.1 hf.2;rw[← cU]at this;refine this.mono ?_;rintro _ _ ⟨s',h1,h2,rfl,rfl⟩
  exact⟨s',Prod.ext h1 h2,rfl,by simp⟩⟩
 cas:=⟨_,⟨lCAS_,rfl⟩,fun s a x y σ hf=>by
  have:=Kb M r s a x y σ hf.1 hf.2;rw[← cU]at this;refine this.mono ?_;rintro _ _ ⟨s',h1,h2,rfl,rfl⟩
  exact⟨s',Prod.ext h1 h2,rfl,by simp⟩⟩
 add:=⟨_,⟨lAdd_,rfl⟩,fun s a d σ hf=>by
  have:=Kc M r s a d σ hf.1 hf.2;rw[← cU]at this;refine this.mono ?_;rintro _ _ ⟨s',h1,h2,rfl,rfl⟩
  exact⟨s',Prod.ext h1 h2,rfl,by simp⟩⟩
 hL:=kLoad_
 hS:=kStore_
 hC:=kCAS_
 hA:=kAdd_
 len:=⟨_,⟨lLen_,rfl⟩,fun s σ=>by
  have:=Sp M r s σ;rw[← cU]at this;refine this.mono ?_;rintro _ _ ⟨s',h1,h2,rfl,rfl⟩
  exact⟨s',Prod.ext h1 h2,rfl,by simp⟩⟩
theorem adf(v:AV)(acc:Hp)(es:List Ev)(σ:Hp)(h:Acc 6 es.length v acc (es.flatMap gy))(hm:∀p∈acc,p∈σ)(hl:es.length≤1000000):ACalls Tryz.prog 143 [v] σ (fun x σ'=>∃aJ,Acc 6 es.length x aJ (es.flatMap gy)∧σ'=aJ++σ):=by
 have hlen:=h.length;generalize hn:es.length=n at h hlen hl;generalize fU:es.flatMap gy=cs at h hlen;cases h with
 |nil=>
  refine ao Tryz.func143 ?_;exact .done ⟨[],.nil,rfl⟩
 |af b k cs h=>
  refine ao Tryz.func143 ?_;intro b2;refine AppendAt.more 0 b2 0 n [] ((cs.drop 0).take (n*6)) rfl rfl (cj rfl) (.mem (dq _ (hm _ (bj.2 rfl))) (by show 0+n*6≤cs.length;omega)) (by omega) (by decide) (by decide) (fun b'=>?_);refine .done ⟨[(b',cs)],?_,?_⟩
  ·rw[dD];exact .af b' n cs h
  ·show (b',List.take (0*6) []++(cs.drop 0).take (n*6))::σ=_;rw[show (cs.drop 0).take (n*6)=cs by rw[fy,dZ (by omega)]];rfl
section
variable (M:AMem) (r:Nat)
theorem adO{c:AV}{acc:Hp}{es:List Ev}(h:LC c acc es):Acc 6 es.length (bV c) acc (es.flatMap gy):=by
 cases h with
 |nil=>exact .nil
 |acc v _ _ h=>exact h
theorem Su(s:jm M)(σ:Hp)(hl:s.es.length≤1000000):ACalls Tryz.prog 79 [.ptr r 0] ((r,[M.v,s.c])::(s.acc++σ)) (fun x σ'=>∃aJ,Acc 6 s.es.length x aJ (s.es.flatMap gy)∧σ'=aJ++((r,[M.v,s.c])::(s.acc++σ))):=by
 have hc:=adf _ _ s.es ((r,[M.v,s.c])::(s.acc++σ)) (adO s.h) (fun p hp=>dq _ (gg _ hp)) hl;obtain⟨m,es,c,acc,h⟩:=s;cases h with
 |nil=>
  refine ao Tryz.func79 ?_;refine aa 0 ?_;refine .mk [] _ hc ?_;rintro x σ' ⟨aJ,h,rfl⟩;have h':Acc 6 0 x aJ []:=h;generalize hn:(0:Nat)=n at h';generalize fU:([]:List AV)=cs at h';cases h' with
  |nil=>exact .done ⟨[],.nil,rfl⟩
  |af b k cs hh=>exact .done ⟨_,h,rfl⟩
 |acc v _ _ hv=>
  refine ao Tryz.func79 ?_;refine aa 0 ?_;refine .mk [] _ hc ?_;rintro x σ' ⟨aJ,h,rfl⟩;have h':Acc 6 es.length x aJ (es.flatMap gy):=h;have h:=h';revert h;generalize hn:es.length=n at h';generalize fU:es.flatMap gy=cs at h';cases h' with
  |nil=>intro h;exact .done ⟨[],h,rfl⟩
  |af b k cs hh=>intro h;exact .done ⟨_,h,rfl⟩
theorem aeJ(s:jm M)(σ:Hp)(hl:s.es.length≤1000000):ACalls Tryz.prog 195 [.ptr r 0] ((r,[M.v,s.c])::(s.acc++σ)) (ay (.int .i64 s.es.length) ((r,[M.v,s.c])::(s.acc++σ))):=by
 refine ao Tryz.func195 ?_;refine .mk [] _ (Su M r s σ hl) ?_;rintro x σ' ⟨aJ,h,rfl⟩;generalize hn:s.es.length=n at h;generalize fU:s.es.flatMap gy=cs at h;cases h with
 |nil=>exact .done ⟨rfl,rfl⟩
 |af b k cs hh=>exact .drop 0 1 (.done ⟨rfl,rfl⟩)
end
theorem aaW(M:AMem)(r:Nat)(s:jm M)(σ:Hp)(hl:s.es.length≤1000000):ACalls Tryz.prog 79 [.ptr r 0] ((r,[M.v,s.c])::(s.acc++σ)) (ay (.ae ga (s.es.map Ev.d)) ((r,[M.v,s.c])::(s.acc++σ))):=by
 refine (Su M r s σ hl).fin ?_;rintro x σ' ⟨aJ,h,rfl⟩;exact lH (s:=ga) (l:=s.es.map Ev.d) [] h (cN Ev.d).symm (BV _) (by decide) (.done ⟨rfl,rfl⟩)
def ij(O:ja)(m:O.A)(k t x y:Int):Ev×O.A:=
 if k=1 then (⟨1,t,0,0,(O.ld m t).1,false⟩,(O.ld m t).2)
 else if k=2 then (⟨2,t,x,0,0,false⟩,O.st m t x)
 else if k=3 then (⟨3,t,x,y,0,(O.cs m t x y).1⟩,(O.cs m t x y).2)
 else (⟨4,t,x,0,(O.ad m t x).1,false⟩,(O.ad m t x).2)
instance ae6:DecidableEq lE:=fun x y=>inferInstanceAs (Decidable (x=y))
instance ah6:DecidableEq (List lE):=fun x y=> @instDecidableEqList lE ae6 x y
theorem Rm(x y:lE):eP (oP (ga.cells x) (ga.cells y))=decide (x=y):=by
 obtain⟨a1,a2,a3,a4,a5,a6,a7⟩:=x;obtain⟨b1,b2,b3,b4,b5,b6,b7⟩:=y;show eP [decide (a1=b1),decide (a2=b2),decide (a3=b3),decide (a4=b4),decide (a5=b5),a6 == b6]=_
 have e:((a1,a2,a3,a4,a5,a6,a7)=(b1,b2,b3,b4,b5,b6,b7))↔(a1=b1∧a2=b2∧a3=b3∧a4=b4∧a5=b5∧a6=b6):=by
  simp only[Prod.mk.injEq];constructor
  ·rintro⟨h1,h2,h3,h4,h5,h6,_⟩;exact⟨h1,h2,h3,h4,h5,h6⟩
  ·rintro⟨h1,h2,h3,h4,h5,h6⟩;exact⟨h1,h2,h3,h4,h5,h6,trivial⟩
 rw[DZ,decide_eq_true_iff];refine Iff.trans ?_ e.symm;simp[eP]
theorem Xa{α:Type}{f:α→List AV}{n:Nat}(hf:∀x,(f x).length=n){l:List α}{j:Nat}(h:j<l.length):((l.flatMap f).drop (j*n)).take n=f l[j]:=by
 induction l generalizing j with
 |nil=>simp at h
 |cons x l ih=>
  cases j with
  |zero=>simp[hf]
  |succ j=>
   rw[sD,List.drop_append,hf,rD,gp3,xz (by rw[hf];omega),sA];simpa using ih (by simpa using h)
theorem adw{i:TI}(hi:i.wide=true)(hs:i.size=6){l:List Ev}{k:Nat}(h:k<l.length):ef i (l.flatMap gy) (0+((k:Int)).toNat*6)=some (.agg (gy l[k])):=by
 have hl:=sM (f:=gy) (es:=6) (fun _=>rfl) l;have hb:Nat.ble (0+k*6+6) (l.flatMap gy).length=true:=Ed (by rw[hl];omega);unfold ef;rw[hi,hs];show (match Nat.ble (0+k*6+6) (l.flatMap gy).length with | true=>some (AV.agg (((l.flatMap gy).drop (0+k*6)).take 6)) | false=>none)=_;rw[hb];show some (AV.agg (((l.flatMap gy).drop (0+k*6)).take 6))=_;rw[dD,Xa (f:=gy) (n:=6) (fun _=>rfl) h]
theorem ad8(b:Nat)(es:List Ev)(B:List lE)(σ:Hp)(hl:es.length≤1000000):ACalls Tryz.prog 95 [.af b 0 es.length 6,.ae ga B] ((b,es.flatMap gy)::σ) (ay (.bool (decide (es.map Ev.d=B))) ((b,es.flatMap gy)::σ)):=by
 refine ao Tryz.func95 ?_;refine cO (fun hn=>?_) (fun hn=>?_)
 ·have hn:(!decide ((es.length:Int)=(B.length:Int)))=true:=hn
  have:es.map Ev.d≠B:=by
   intro e;have h:=congrArg List.length e;rw[cN]at h;rw[h]at hn;simp at hn
  exact .done ⟨bJ (by simp[this]),rfl⟩
 have hn:(!decide ((es.length:Int)=(B.length:Int)))=false:=hn;have hlen:es.length=B.length:=by simp at hn;omega
 refine bc (S:=Nat) (fun s=>[(0,.af b 0 es.length 6),(1,.ae ga B),(12,.int .i64 es.length),(13,.int .i64 s)]) (fun _=>(b,es.flatMap gy)::σ) (fun s=>s≤es.length∧(es.map Ev.d).take s=B.take s) (fun s=>es.length-s) 0 ⟨⟨aV _,rfl⟩,⟨rfl,rfl,rfl,rfl,trivial⟩,rfl⟩ ?_;rintro k g ⟨hk,eH⟩;refine ai (fun ab=>?_) (fun ak=>?_)
 ·have ab:k<es.length:=by have ab:(k:Int)<es.length:=ab;omega
  have UA:k<B.length:=by omega
  have agl:k<(es.map Ev.d).length:=by simpa using ab
  refine .quiet (by kernel_rfl) ?_;refine aH ?_;refine aS 0 rfl (adw rfl rfl ab) ?_;refine aF.mk rfl (aY.mk B[k] (by omega) (get_some UA) ?_);refine .mk (by kernel_rfl) (by kernel_rfl) ?_;refine cO (fun h=>?_) (fun h=>?_)
  ·have h:(!eP (oP (ga.cells es[k].d) (ga.cells B[k])))=true:=h;rw[Rm]at h;have:es.map Ev.d≠B:=by rintro rfl;simp at h
   exact .done ⟨bJ (by simp[this]),rfl⟩
  ·have h:(!eP (oP (ga.cells es[k].d) (ga.cells B[k])))=false:=h;rw[Rm]at h;have h:es[k].d=B[k]:=by simpa using h
   refine next (k+1) ?_ ⟨ab,?_⟩ ⟨rfl,rfl,rfl,aI (by omega),trivial⟩ rfl
   ·show es.length-(k+1)<es.length-k;omega
   ·rw[eM agl,eM UA,eH,D1,h]
 ·have ak:¬(k:Int)<es.length:=ak;have qn:k=es.length:=by omega
  have:es.map Ev.d=B:=by
   rw[qn,List.take_of_length_le (by simp),hlen,List.take_length]at eH;exact eH
  exact .done ⟨bJ (by simp[this]),rfl⟩
def Gi(st:List Ev×List Int)(d:lE):List Ev×List Int:=(st.1++[(ij bR st.2 d.1 d.2.1 d.2.2.1 d.2.2.2.1).1],(ij bR st.2 d.1 d.2.1 d.2.2.1 d.2.2.2.1).2)
def replay(ws:List Int)(B:List lE):List Ev×List Int:=B.foldl Gi ([],ws)
theorem N7{ws:List Int}{B:List lE}{k:Nat}(h:k<B.length):replay ws (B.take (k+1))=Gi (replay ws (B.take k)) B[k]:=by
 unfold replay;rw[eM h,rE];rfl
def oM(d:lE):Bool:=decide (1≤d.1)&&decide (d.1≤4)
def ur(n:Int)(B:List lE):Bool:=B.all oM&&decide ((replay (List.replicate (kO n) 0) B).1.map Ev.d=B)
theorem WD(ws:List Int)(B:List lE):(replay ws B).1.length=B.length:=by
 have:∀(B:List lE) (st:List Ev×List Int),(B.foldl Gi st).1.length=st.1.length+B.length:=by
  intro B
  induction B with
  |nil=>intro st;rfl
  |cons d B ih=>intro st;rw[List.foldl_cons,ih];simp[Gi];omega
 simpa [replay]using this B ([],ws)
theorem Qa(σ:Hp):ACalls Tryz.prog 95 [.ag,.ae ga []] σ (ay (.bool true) σ):=by
 refine ao Tryz.func95 ?_;refine bc (S:=Unit) (fun _=>[(12,.int .i64 0),(13,.int .i64 0)]) (fun _=>σ) (fun _=>True) (fun _=>0) () ⟨trivial,⟨rfl,rfl,trivial⟩,rfl⟩ ?_;intro _ g _;exact .done ⟨rfl,rfl⟩
theorem acA{e n:Nat}{v:AV}{acc:Hp}{cs:List AV}(h:Acc e n v acc cs):(v=.ag∧acc=[]∧n=0)∨∃b,v=.af b 0 n e∧acc=[(b,cs)]:=by
 cases h with
 |nil=>exact .inl ⟨rfl,rfl,rfl⟩
 |af b k cs h=>exact .inr ⟨b,rfl,rfl⟩
theorem Jb{R:AV→Hp→Prop}{x:AV}{σ:Hp}(fr:Hp)(h:Fin R x σ):Fin R x (fr++σ):=.drop 0 fr.length (by simpa using h)
theorem acQ(n:Int)(B:List lE)(σ:Hp)(hB:B.length≤999000):ACalls Tryz.prog 39 [.int .i64 n,.ae ga B] σ (ay (.bool (ur n B)) σ):=by
 refine ao Tryz.func39 ?_;refine .mk [] _ (LF n σ) ?_;rintro _ _ ⟨p,q,rfl,rfl⟩;refine .mk [] _ (Sn (cT p q) _) ?_;rintro _ _ ⟨r,rfl,rfl⟩;obtain⟨zs,gX⟩:∃zs,zs=List.replicate (kO n) (0:Int):=⟨_,rfl⟩
 have hlen:kO n=zs.length:=by rw[gX];simp
 refine bc (S:=Nat×jm (cT p q)) (fun s=>[(1,.ae ga B),(5,.ptr r 0),(12,.ae ga B),(13,.int .i64 B.length),(14,.int .i64 s.1)])
  (fun s=>(r,[(cT p q).v,s.2.c])::(s.2.acc++((cT p q).B s.2.m++σ))) (fun s=>s.1≤B.length∧s.2.es=(replay zs (B.take s.1)).1∧(cT p q).abs s.2.m=(replay zs (B.take s.1)).2∧(B.take s.1).all oM=true) (fun s=>B.length-s.1) (0,⟨zs,[],.ag,[],.nil⟩) ⟨⟨aV _,rfl,rfl,rfl⟩,⟨rfl,rfl,rfl,rfl,rfl,trivial⟩,by rw[← gX,hlen];rfl⟩ ?_
 rintro⟨k,ls⟩ g ⟨hk,AK,hm,bh⟩;have hk:k≤B.length:=hk;have AK:ls.es=(replay zs (B.take k)).1:=AK;have hm:(cT p q).abs ls.m=(replay zs (B.take k)).2:=hm;have bh:(B.take k).all oM=true:=bh;have yP:ls.es.length=k:=by rw[AK,WD,oh];omega
 refine ai (fun ab=>?_) (fun ak=>?_)
 ·have ab:k<B.length:=by have ab:(k:Int)<B.length:=ab;omega
  refine aF.mk rfl (aY.mk B[k] (by omega) (get_some ab) ?_);intro b;refine ah 0 ?_;refine aa 0 ?_;generalize hd:B[k]=d;obtain⟨dk,dt,dx,dy,dg,dok,du⟩:=d
  have hp:∀(c:List AV) (s':jm (cT p q)),((b,c)::(r,[(cT p q).v,s'.c])::(s'.acc++((cT p q).B s'.m++σ))).Perm ((r,[(cT p q).v,s'.c])::(s'.acc++((cT p q).B s'.m++((b,c)::σ)))):=fun c s'=>by
   have h:=ew ((r,[(cT p q).v,s'.c])::(s'.acc++(cT p q).B s'.m)) [(b,c)] σ;simpa using h
  have fin:∀(kn:jm (cT p q)),oM (dk,dt,dx,dy,dg,dok,du)=true→(cT p q).abs kn.m=(ij (cT p q).O ((cT p q).abs ls.m) dk dt dx dy).2→kn.es=ls.es++[(ij (cT p q).O ((cT p q).abs ls.m) dk dt dx dy).1]→
    kn.es=(replay zs (B.take (k+1))).1∧(cT p q).abs kn.m=(replay zs (B.take (k+1))).2∧(B.take (k+1)).all oM=true:=fun kn h0 a1 a2=>by
   refine⟨?_,?_,?_⟩
   ·rw[N7 ab,hd,a2,AK];show _++[(ij bR ((cT p q).abs ls.m) dk dt dx dy).1]=_++[(ij bR (replay zs (B.take k)).2 dk dt dx dy).1];rw[hm]
   ·rw[N7 ab,hd,a1];show (ij bR ((cT p q).abs ls.m) dk dt dx dy).2=(ij bR (replay zs (B.take k)).2 dk dt dx dy).2;rw[hm]
   ·rw[eM ab,xt,bh,hd];simp[h0]
  refine ai (fun h1=>?_) (fun h1=>?_)
  ·have h1:dk=1:=h1;refine aa 0 ?_;refine .perm _ (hp _ ls).symm (JI (cT p q) r ls dt _ trivial (by omega)) ?_;rintro _ _ ⟨kn,e1,e2,rfl,rfl⟩;obtain⟨f1,f2,f3⟩:=fin kn (by simp[oM,h1]) (by simp[ij,h1,e1]) (by simp[ij,h1,e2]);refine⟨_,hp _ kn,?_⟩;refine aM (k+1,kn) ?_ ⟨ab,f1,f2,f3⟩ ⟨rfl,rfl,rfl,rfl,aI (by omega),trivial⟩ (.drop 0 1 (aL rfl));show B.length-(k+1)<B.length-k;omega
  have h1:¬dk=1:=h1;refine ai (fun h2=>?_) (fun h2=>?_)
  ·have h2:dk=2:=h2;refine aa 0 ?_;refine aa 0 ?_;refine .perm _ (hp _ ls).symm (Jj (cT p q) r ls dt dx _ trivial (by omega)) ?_;rintro _ _ ⟨kn,e1,e2,rfl,rfl⟩;obtain⟨f1,f2,f3⟩:=fin kn (by simp[oM,h2]) (by simp[ij,h2,e1]) (by simp[ij,h2,e2]);refine⟨_,hp _ kn,?_⟩;refine aM (k+1,kn) ?_ ⟨ab,f1,f2,f3⟩ ⟨rfl,rfl,rfl,rfl,aI (by omega),trivial⟩ (.drop 0 1 (aL rfl));show B.length-(k+1)<B.length-k;omega
  have h2:¬dk=2:=h2;refine ai (fun h3=>?_) (fun h3=>?_)
  ·have h3:dk=3:=h3;refine aa 0 ?_;refine aa 0 ?_;refine aa 0 ?_;refine .perm _ (hp _ ls).symm (Kb (cT p q) r ls dt dx dy _ trivial (by omega)) ?_;rintro _ _ ⟨kn,e1,e2,rfl,rfl⟩;obtain⟨f1,f2,f3⟩:=fin kn (by simp[oM,h3]) (by simp[ij,h3,e1]) (by simp[ij,h3,e2]);refine⟨_,hp _ kn,?_⟩;refine aM (k+1,kn) ?_ ⟨ab,f1,f2,f3⟩ ⟨rfl,rfl,rfl,rfl,aI (by omega),trivial⟩ (.drop 0 1 (aL rfl));show B.length-(k+1)<B.length-k;omega
  have h3:¬dk=3:=h3;refine ai (fun h4=>?_) (fun h4=>?_)
  ·have h4:dk=4:=h4;refine aa 0 ?_;refine aa 0 ?_;refine .perm _ (hp _ ls).symm (Kc (cT p q) r ls dt dx _ trivial (by omega)) ?_;rintro _ _ ⟨kn,e1,e2,rfl,rfl⟩;obtain⟨f1,f2,f3⟩:=fin kn (by simp[oM,h4]) (by simp[ij,h4,e1]) (by simp[ij,h4,e2]);refine⟨_,hp _ kn,?_⟩;refine aM (k+1,kn) ?_ ⟨ab,f1,f2,f3⟩ ⟨rfl,rfl,rfl,rfl,aI (by omega),trivial⟩ (.drop 0 1 (aL rfl));show B.length-(k+1)<B.length-k;omega
  have h4:¬dk=4:=h4
  have sn:ur n B=false:=by
   have:B.all oM=false:=by
    rw[List.all_eq_false];refine⟨B[k],bU ab,?_⟩;rw[hd];simp only[oM,bS,decide_eq_true_eq];omega
   simp[ur,this]
  have h:=Jb (R:=ay (.bool (ur n B)) σ) (x:=.bool false) ((b,ga.cells (dk,dt,dx,dy,dg,dok,du))::(r,[(cT p q).v,ls.c])::(ls.acc++(cT p q).B ls.m)) (.done ⟨by rw[sn],rfl⟩);simp only[AW,cU]at h;exact h
 ·have ak:¬(k:Int)<B.length:=ak;have Mm:k=B.length:=by omega
  have nS:ur n B=decide (ls.es.map Ev.d=B):=by
   rw[Mm,er]at AK bh;unfold ur;rw[bh,← gX,← AK];rfl
  rw[nS];obtain⟨m,es,c,acc,h⟩:=ls;have yP:es.length=k:=yP;cases h with
  |nil=>
   have:B=[]:=fE.1 (by rw[← Mm,← yP];rfl);subst this;refine aa 0 ?_;refine aw [] (Qa _) ?_;exact .drop 0 3 (.done ⟨rfl,rfl⟩)
  |acc v _ _ h=>
   rcases acA h with ⟨rfl,rfl,hn⟩ | ⟨b,rfl,rfl⟩
   ·have:B=[]:=fE.1 (by rw[← Mm,← yP];exact hn);subst this;obtain rfl:es=[]:=fE.1 hn;refine aa 0 ?_;refine aw [] (Qa _) ?_;exact .drop 0 3 (.done ⟨rfl,rfl⟩)
   ·refine aa 0 ?_;refine aw [1] (ad8 b es B _ (by omega)) ?_;exact .drop 0 4 (.done ⟨rfl,rfl⟩)
theorem P6(ws:List Int)(k t x y:Int)(hk:1≤k∧k≤4):∀e,e=(ij bR ws k t x y).1→oM e.d=true∧ij bR ws e.kind e.at_ e.a e.b=ij bR ws k t x y:=by
 rintro e rfl
 rcases (show k=1∨k=2∨k=3∨k=4 by omega) with rfl | rfl | rfl | rfl <;> exact⟨rfl,rfl⟩
theorem N8{zs:List Int}{es:List Ev}{ws:List Int}{k t x y:Int}(hk:1≤k∧k≤4)(h:replay zs (es.map Ev.d)=(es,ws)):replay zs ((es++[(ij bR ws k t x y).1]).map Ev.d)=(es++[(ij bR ws k t x y).1],(ij bR ws k t x y).2):=by
 obtain⟨_,h2⟩:=P6 ws k t x y hk _ rfl;unfold replay at h ⊢;rw[cE,rE,h];show (es++[(ij bR ws _ _ _ _).1],(ij bR ws _ _ _ _).2)=_;exact congrArg (fun r:Ev×List Int=>(es++[r.1],r.2)) h2
abbrev wr(n:Int):Int:=IntKind.i64.wrap n
structure Tk where
 f:Int
 c:Int
 v:Int
 new:Bool
 ended:Bool
 kv:Bool
def yz(t:Tk):List AV:=[.int .i64 t.f,.int .i64 t.c,.int .i64 t.v,.bool t.new,.bool t.ended,.bool t.kv]
def lJ(O:ja)(t:Tk)(a:O.A):Tk×O.A×Bool:=
 if t.ended then (t,a,true)
 else if t.kv then ({ t with ended:=true },(O.ad a t.c 1).2,true)
 else if 0≤t.v then
  (if (O.cs a (wr (t.f+t.v)) 0 1).1 then ({ t with kv:=true,new:=true },(O.cs a (wr (t.f+t.v)) 0 1).2,false) else ({ t with kv:=true,new:=false,ended:=true },(O.cs a (wr (t.f+t.v)) 0 1).2,true))
 else ({ t with kv:=true,new:=false,ended:=true },a,true)
def pS(M:AMem)(σ:Hp){X:Type}(B:X→List AV)(r:Nat)(res:X×M.O.A×Bool):AV→Hp→Prop:=
 fun x σ'=>∃m',M.abs m'=res.2.1∧x=.bool res.2.2∧σ'=(r,B res.1)::(M.B m'++σ)
theorem jV{M:AMem}{σ:Hp}{X:Type}{B:X→List AV}{r:Nat}{res:X×M.O.A×Bool}{x:X}{a:M.O.A}{b:Bool}{m':M.S}(h:res=(x,a,b))(hm:M.abs m'=a):pS M σ B r res (.bool b) ((r,B x)::(M.B m'++σ)):=by
 subst h;exact⟨m',hm,rfl,rfl⟩
theorem GB(M:AMem)(r:Nat)(t:Tk)(m:M.S)(d:Int)(σ:Hp)(hf:M.O.free (M.abs m)):ACalls Tryz.prog 408 [.ptr r 0,M.v,.int .i64 d] ((r,yz t)::(M.B m++σ)) (pS M σ yz r (lJ M.O t (M.abs m))):=by
 refine ao Tryz.func408 ?_;refine ec.jG 0 _ _ rfl rfl (fun h0=>?_) (fun h0=>?_)
 ·exact .done (jV (x:=t) (by simp[lJ,h0]) rfl)
 refine aw [] (dI _ _ _) ?_;refine ec.jG 0 _ _ rfl rfl (fun h1=>?_) (fun h1=>?_)
 ·refine .each (by kernel_rfl) ?_;refine aa 0 ?_;refine eY.mk M.hA ?_;refine M.aAdd [_] hf fun m' hm=>?_;refine .fwd 1 ?_;refine ah 0 ?_;exact .done (jV (x:= { t with ended:=true }) (by simp[lJ,h0,h1]) hm)
 refine ah 0 ?_;refine .each (by kernel_rfl) ?_
 by_cases h2:0≤t.v
 ·repeat' first
   |refine And.intro ?_ ?_
   |refine aa 0 ?_
   |refine ai (fun _=>?_) (fun h=>absurd h2 h)
   |refine eY.mk M.hC ?_
  all_goals
   refine M.aCasB [_] hf (fun m' hm hb=>?_) (fun m' hm hb=>?_)
   ·refine ah 0 ?_;refine aa 0 ?_;exact .done (jV (x:= { t with kv:=true,new:=true }) (by simp[lJ,h0,h1,h2,hb]) hm)
   ·refine ah 0 ?_;refine aa 0 ?_;refine ah 0 ?_;exact .done (jV (x:= { t with kv:=true,new:=false,ended:=true }) (by simp[lJ,h0,h1,h2,hb]) hm)
 ·repeat' first
   |refine And.intro ?_ ?_
   |refine aa 0 ?_
   |refine ai (fun h=>absurd h h2) (fun _=>?_)
   |refine ah 0 ?_
  all_goals
   exact .done (jV (x:= { t with kv:=true,new:=false,ended:=true }) (by simp[lJ,h0,h1,h2]) rfl)
structure Ck where
 f:Int
 c:Int
 v:Int
 ended:Bool
def Ei(t:Ck):List AV:=[.int .i64 t.f,.int .i64 t.c,.int .i64 t.v,.bool t.ended]
def oG(O:ja)(t:Ck)(a:O.A):Ck×O.A×Bool:=
 if t.ended then (t,a,true) else ({ t with ended:=true },if 0≤t.v then O.st a (wr (t.f+t.v)) 0 else a,true)
theorem Tv(M:AMem)(r:Nat)(t:Ck)(m:M.S)(d:Int)(σ:Hp)(hf:M.O.free (M.abs m)):ACalls Tryz.prog 405 [.ptr r 0,M.v,.int .i64 d] ((r,Ei t)::(M.B m++σ)) (pS M σ Ei r (oG M.O t (M.abs m))):=by
 refine ao Tryz.func405 ?_;refine ec.jG 0 _ _ rfl rfl (fun h0=>?_) (fun h0=>?_)
 ·exact .done (jV (x:=t) (by simp[oG,h0]) rfl)
 refine ah 0 ?_;refine aa 0 ?_;refine ai (fun h2=>?_) (fun h2=>?_)
 ·have h2:0≤t.v:=h2;refine .each (by kernel_rfl) ?_
  repeat' first
   |refine And.intro ?_ ?_
   |refine aa 0 ?_
   |refine aw [] (dI _ _ _) ?_
   |refine eY.mk M.hS ?_
  all_goals
   refine M.aStore [_] hf fun m' hm=>?_;exact .done (jV (x:= { t with ended:=true }) (by simp[oG,h0,h2]) hm)
 ·have h2:¬0≤t.v:=h2;exact .done (jV (x:= { t with ended:=true }) (by simp[oG,h0,h2]) rfl)
structure Rk where
 f:Int
 c:Int
 left:Int
 ended:Bool
def Dc(t:Rk):List AV:=[.int .i64 t.f,.int .i64 t.c,.int .i64 t.left,.bool t.ended]
def pJ(O:ja)(t:Rk)(a:O.A):Rk×O.A×Bool:=
 if t.ended then (t,a,true) else ({ t with ended:=true,left:=wr (O.ad a t.c 18446744073709551615).1 },(O.ad a t.c 18446744073709551615).2,true)
theorem Sj(M:AMem)(r:Nat)(t:Rk)(m:M.S)(d:Int)(σ:Hp)(hf:M.O.free (M.abs m)):ACalls Tryz.prog 410 [.ptr r 0,M.v,.int .i64 d] ((r,Dc t)::(M.B m++σ)) (pS M σ Dc r (pJ M.O t (M.abs m))):=by
 refine ao Tryz.func410 ?_;refine ec.jG 0 _ _ rfl rfl (fun h0=>?_) (fun h0=>?_)
 ·exact .done (jV (x:=t) (by simp[pJ,h0]) rfl)
 refine ah 0 ?_;refine .each (by kernel_rfl) ?_
 repeat' first
  |refine And.intro ?_ ?_
  |refine aa 0 ?_
  |refine aw [] (dI _ _ _) ?_
  |refine eY.mk M.hA ?_
 all_goals
  refine M.aAdd [_] hf fun m' hm=>?_;refine ah 0 ?_;exact .done (jV (x:= { t with ended:=true,left:=wr (M.O.ad (M.abs m) t.c 18446744073709551615).1 }) (by simp[pJ,h0]) hm)
structure Qk where
 f:Int
 c:Int
 is:Bool
 ended:Bool
def Dd(t:Qk):List AV:=[.int .i64 t.f,.int .i64 t.c,.bool t.is,.bool t.ended]
def oz(O:ja)(t:Qk)(a:O.A):Qk×O.A×Bool:=
 if t.ended then (t,a,true) else ({ t with ended:=true,is:=decide ((O.ld a t.c).1=0) },(O.ld a t.c).2,true)
theorem Ga(M:AMem)(r:Nat)(t:Qk)(m:M.S)(d:Int)(σ:Hp)(hf:M.O.free (M.abs m)):ACalls Tryz.prog 404 [.ptr r 0,M.v,.int .i64 d] ((r,Dd t)::(M.B m++σ)) (pS M σ Dd r (oz M.O t (M.abs m))):=by
 refine ao Tryz.func404 ?_;refine ec.jG 0 _ _ rfl rfl (fun h0=>?_) (fun h0=>?_)
 ·exact .done (jV (x:=t) (by simp[oz,h0]) rfl)
 refine ah 0 ?_;refine .each (by kernel_rfl) ?_
 repeat' first
  |refine And.intro ?_ ?_
  |refine aa 0 ?_
  |refine aw [] (dI _ _ _) ?_
  |refine eY.mk M.hL ?_
 all_goals
  refine M.aLoad [_] hf fun m' hm=>?_;refine ai (fun h2=>?_) (fun h2=>?_)
  ·have h2:(M.O.ld (M.abs m) t.c).1=0:=h2;refine ah 0 ?_;exact .done (jV (x:= { t with ended:=true,is:=true }) (by simp[oz,h0,h2]) hm)
  ·have h2:¬(M.O.ld (M.abs m) t.c).1=0:=h2;refine ah 0 ?_;exact .done (jV (x:= { t with ended:=true,is:=false }) (by simp[oz,h0,h2]) hm)
theorem acZ(M:AMem)(f c:Int)(m:M.S)(σ:Hp)(hf:M.O.free (M.abs m)):ACalls Tryz.prog 46 [.agg [.int .i64 f,.int .i64 c],M.v] (M.B m++σ) (fun x σ'=>∃m',M.abs m'=(M.O.ld (M.abs m) c).2∧x=.int .i64 (wr (M.O.ld (M.abs m) c).1)∧σ'=M.B m'++σ):=by
 refine ao Tryz.func46 ?_;intro b;refine .each (by kernel_rfl) ?_
 repeat' first
  |refine And.intro ?_ ?_
  |refine aa 0 ?_
  |refine aw [] (dI _ _ _) ?_
 all_goals
  refine M.aLoad [_] hf fun m' hm=>?_;exact .drop 0 1 (.done ⟨m',hm,rfl,rfl⟩)
theorem aeg(M:AMem)(f c v:Int)(m:M.S)(σ:Hp)(hf:M.O.free (M.abs m)):ACalls Tryz.prog 49 [.agg [.int .i64 f,.int .i64 c],M.v,.int .i64 v] (M.B m++σ) (fun x σ'=>∃m',M.abs m'=(if 0≤v then (M.O.ld (M.abs m) (wr (f+v))).2 else M.abs m)∧x=.bool (decide (0≤v)&&decide ((M.O.ld (M.abs m) (wr (f+v))).1=1))∧σ'=M.B m'++σ):=by
 refine ao Tryz.func49 ?_;intro b;refine .each (by kernel_rfl) ?_
 by_cases h:0≤v
 ·repeat' first
   |refine And.intro ?_ ?_
   |refine ai (fun _=>?_) (fun h2=>absurd h h2)
   |refine aa 0 ?_
   |refine aw [] (dI _ _ _) ?_
  all_goals
   refine M.aLoad [_] hf fun m' hm=>?_;refine ai (fun h2=>?_) (fun h2=>?_)
   ·have h2:(M.O.ld (M.abs m) (wr (f+v))).1=1:=h2;exact .drop 0 1 (.done ⟨m',by rw[if_pos h];exact hm,bJ (by simp[h,h2]),rfl⟩)
   ·have h2:¬(M.O.ld (M.abs m) (wr (f+v))).1=1:=h2;exact .drop 0 1 (.done ⟨m',by rw[if_pos h];exact hm,bJ (by simp[h2]),rfl⟩)
 ·repeat' first
   |refine And.intro ?_ ?_
   |refine ai (fun h2=>absurd h2 h) (fun _=>?_)
  all_goals
   exact .drop 0 1 (.done ⟨m,by rw[if_neg h],bJ (by simp[h]),rfl⟩)
theorem JH(f c:Int)(p q:Nat)(ws:List Int)(σ:Hp):ACalls Tryz.prog 46 [.agg [.int .i64 f,.int .i64 c],km p] (bN p q ws σ) (ay (.int .i64 (wr (eT ws c))) (bN p q ws σ)):=
 (acZ (cT p q) f c ws σ trivial).mono fun _ _ ⟨m',h1,h2,h3⟩=>by
  have h1:m'=ws:=h1;subst h1;exact⟨h2,h3⟩
theorem acD(f c v:Int)(p q:Nat)(ws:List Int)(σ:Hp):ACalls Tryz.prog 49 [.agg [.int .i64 f,.int .i64 c],km p,.int .i64 v] (bN p q ws σ) (ay (.bool (decide (0≤v)&&decide (eT ws (wr (f+v))=1))) (bN p q ws σ)):=
 (aeg (cT p q) f c v ws σ trivial).mono fun _ _ ⟨m',h1,h2,h3⟩=>by
  have h1:m'=ws:=by
   refine h1.trans ?_;show (if 0≤v then ws else ws)=ws;split <;> rfl
  subst h1;exact⟨h2,h3⟩
abbrev Hd(m q:Nat)(ws:List Int)(σ:Hp):Hp:=(m,[AV.af q 0 ws.length 1])::(q,aU ws)::σ
theorem afx(n:Int)(σ:Hp):ACalls Tryz.prog 81 [.int .i64 n] σ (fun r σ'=>∃m q,r=.ptr m 0∧σ'=Hd m q (List.replicate (kO n) 0) σ):=by
 have hc:=Sd n
 have e:(if (1048576:Int)<(if n<0 then 0 else n) then 1048576 else (if n<0 then 0 else n))=((kO n:Nat):Int):=by
  unfold kO
  by_cases h:n<0
  ·simp only[az h];omega
  ·simp only[aB h];split <;> omega
 refine ao Tryz.func81 ?_;refine aF.mk ⟨by rw[e];omega,kU _,by rw[e];omega,by decide⟩ ?_;intro q m;refine .done ⟨m,q,rfl,?_⟩;show (m,[AV.af q 0 (if (1048576:Int)<(if n<0 then 0 else n) then 1048576 else (if n<0 then 0 else n)).toNat 1])::(q,cP [AV.int .u64 0] (if (1048576:Int)<(if n<0 then 0 else n) then 1048576 else (if n<0 then 0 else n)).toNat)::σ=_;rw[e,bD,zt];unfold Hd;rw[gh]
theorem OQ{α:Type}{f:α→Hp}{l:List α}{j:Nat}(h:j<l.length):(l.flatMap f).Perm (f l[j]++(l.eraseIdx j).flatMap f):=by
 induction l generalizing j with
 |nil=>simp at h
 |cons x l ih=>
  cases j with
  |zero=>exact List.Perm.refl _
  |succ j=>
   rw[sD];have:=ih (j:=j) (by simpa using h);refine (List.Perm.append_left _ this).trans ?_;simp only[List.getElem_cons_succ,List.eraseIdx_cons_succ,sD,← cU];exact List.Perm.append_right _ H4
theorem Yt{α:Type}{f:α→Hp}{l:List α}{j:Nat}(h:j<l.length)(y:α):((l.set j y).flatMap f).Perm (f y++(l.eraseIdx j).flatMap f):=by
 have:=OQ (f:=f) (l:=l.set j y) (j:=j) (by simpa using h);rw[List.getElem_set_self,M1]at this;exact this
end Go.Proofs.YtnikdflhefijbaaGreat
