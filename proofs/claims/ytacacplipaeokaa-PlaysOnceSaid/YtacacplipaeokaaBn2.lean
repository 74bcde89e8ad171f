/-
  Av: what the claim uses of them.
-/
import Derived.Test.YtacacplipaeokaaBn1
namespace Go.Proofs.Ytacacplipaeokaa
open Go.RowKit
/-- What is known of a value. A frozen slice reads as a list for good; an open one leads to a block of the walk's memory. -/
inductive AV where
  | int (k : IntKind) (n : Int)
  | bool (b : Bool)
  | str (s : ByteArray)
  | fsl (e : Sh) (l : List e.T)
  | zsl
  | esl
  | nils
  | mref (b off len e : Nat)
  | nilp
  | ptr (b off : Nat)
  | eptr (cs : List AV)
  | agg (cs : List AV)
  | tup (vs : List AV)
  | iface (t : TypeId) (v : AV)
  | nilif
  | fn (f : Fn) (first cap : List AV)
  | nilfn
  /-- A map that nobody made. -/
  | nilm
  /-- A float64, a complex128, of whole numbers. -/
  | flt (n : Int)
  | cpx (n m : Int)
  | any
  /-- What v is, and of which no more is said. -/
  | via (v : AV)
  /-- A map of numbers by numbers, by its block; what such a map holds, as its block's one cell. -/
  | mapr (b : Nat)
  | mapc (l : List (Int × Int))
  /-- What goes over a map, by its block; what it holds, as its block's one cell: the map's block, how many entries the map had, those that were told. -/
  | itr (b : Nat)
  | itrc (m c : Nat) (seen : List Nat)
  /-- The record of a range over a function, and what its frame's temporaries were, as its block's one cell. -/
  | loopc (L : Loop) (t : Nat → AV)
/-- The memory that the walk speaks of: blocks, each with its first cells. -/
abbrev Hp : Type := List (Nat × List AV)
abbrev Tm : Type := Nat → AV
def Sh.cells : (s : Sh) → s.T → List AV
  | .int k, (n : Int) => [.int k n]
  | .bool, (b : Bool) => [.bool b]
  | .str, (s : ByteArray) => [.str s]
  | .slice e, (l : List e.T) => [.fsl e l]
  | .nil, _ => []
  | .field f r, (d : f.T × r.T) => f.cells d.1 ++ r.cells d.2
def AV.leaf : AV → Bool
  | .agg _ | .tup _ | .any | .mapc _ | .itrc _ _ _ | .loopc _ _ => false
  | _ => true
/-- The cells that a value takes. -/
def AV.cells? : AV → Option (List AV)
  | .agg cs => some cs
  | .tup _ | .any | .mapc _ | .itrc _ _ _ | .loopc _ _ => none
  | v => some [v]
inductive TK where
  | int (k : IntKind) | bool | str | slice (e : TypeId) | ptr (e : TypeId) | strct (fs : List (Nat × TypeId)) | arr (n : Nat) (e : TypeId) | iface | func | map (k e : TypeId) | flt | cpx | other
structure TI where
  k : TK
  size : Nat
  bytes : Nat
  zero : List AV
def TI.wide (i : TI) : Bool := match i.k with | .strct _ | .arr _ _ => true | _ => false
def ofLeaf : Value → AV
  | .int k n => .int k n
  | .bool b => .bool b
  | .string s => .str s
  | .pointer none => .nilp
  | .slice none 0 0 => .nils
  | .nilIface => .nilif
  | .nilFunc => .nilfn
  | .map none => .nilm
  | _ => .any
def ofVal : Value → AV
  | .agg cs => match (cs.toList.map ofLeaf).all AV.leaf with | true => .agg (cs.toList.map ofLeaf) | false => .any
  | .tuple vs => match vs.toList with | [] => .tup [] | _ => .any
  | v => ofLeaf v
def ev (t : Tm) : Operand → AV
  | .tmp i => t i
  | .const v => ofVal v
  | .global _ => .any
  | .func f => .fn (.func f) [] []
def put (t : Tm) (d : Option Tmp) (v : AV) : Tm :=
  match d with
  | none => t
  | some d => fun i => match Nat.beq i d with | true => v | false => t i
def bcond (b : Bool) (A B : Prop) : Prop := match b with | true => A | false => B
theorem bcond_split {b : Bool} {A B : Prop} (h1 : b = true → A) (h2 : b = false → B) : bcond b A B := by cases b; exact h2 rfl; exact h1 rfl
theorem bcond_dec {p : Prop} [Decidable p] {A B : Prop} (h1 : p → A) (h2 : ¬ p → B) : bcond (decide p) A B := by
  by_cases h : p
  · simp only [h, decide_true]; exact h1 h
  · simp only [h, decide_false]; exact h2 h
/-- What follows, of a value that is looked at. -/
def strict (v : AV) (K : AV → Prop) : Prop :=
  match v with
  | .int k n => K (.int k n)
  | .bool b => K (.bool b)
  | .str s => K (.str s)
  | .fsl e l => K (.fsl e l)
  | .zsl => K .zsl
  | .esl => K .esl
  | .nils => K .nils
  | .mref b o l e => K (.mref b o l e)
  | .nilp => K .nilp
  | .ptr b o => K (.ptr b o)
  | .eptr cs => K (.eptr cs)
  | .agg cs => K (.agg cs)
  | .tup vs => K (.tup vs)
  | .iface t v => K (.iface t v)
  | .nilif => K .nilif
  | .fn f a c => K (.fn f a c)
  | .nilfn => K .nilfn
  | .nilm => K .nilm
  | .flt n => K (.flt n)
  | .cpx n m => K (.cpx n m)
  | .any => K .any
  | .via v => K (.via v)
  | .mapr b => K (.mapr b)
  | .mapc l => K (.mapc l)
  | .itr b => K (.itr b)
  | .itrc m c s => K (.itrc m c s)
  | .loopc L t => K (.loopc L t)
theorem strict_eq (v : AV) (K : AV → Prop) : strict v K = K v := by cases v <;> rfl
def unvia : AV → AV
  | .via v => v
  | v => v
structure With (p : Prop) (X : Prop) : Prop where
  fact : p
  go : X
/-- The cells from off on, read as a value of the type. -/
def readAs (i : TI) (cs : List AV) (off : Nat) : Option AV :=
  match i.wide with
  | true => match Nat.ble (off + i.size) cs.length with | true => some (.agg ((cs.drop off).take i.size)) | false => none
  | false => cs[off]?
def splice (cs : List AV) (off : Nat) : List AV → List AV
  | [] => cs
  | v :: r => splice (cs.set off v) (off + 1) r
def writeAs (i : TI) (cs : List AV) (off : Nat) (v : AV) : Option (List AV) :=
  match v.cells? with
  | some vs => match Nat.beq vs.length i.size, Nat.ble (off + i.size) cs.length with | true, true => some (splice cs off vs) | _, _ => none
  | none => none
inductive LoadAt (i : TI) (σ : Hp) (b o : Nat) (K : AV → Prop) : Prop where
  | mk (j : Nat) (cs : List AV) (v : AV) (h1 : σ[j]? = some (b, cs)) (h2 : readAs i cs o = some v) (go : K v)
inductive StoreAt (i : TI) (σ : Hp) (b o : Nat) (v : AV) (K : Hp → Prop) : Prop where
  | mk (j : Nat) (cs cs' : List AV) (h1 : σ[j]? = some (b, cs)) (h2 : writeAs i cs o v = some cs') (go : K (σ.set j (b, cs')))
inductive IdxF {α : Type} (l : List α) (n : Int) (K : α → Prop) : Prop where
  | mk (x : α) (h0 : 0 ≤ n) (h1 : l[n.toNat]? = some x) (go : K x)
def fillA (places : List (Nat × Nat)) (cs : List AV) : List (Nat × AV) → Option (List AV)
  | [] => some cs
  | (i, v) :: r => match places[i]?, v.cells? with
    | some (off, size), some vs => match Nat.beq vs.length size, Nat.ble (off + size) cs.length with | true, true => fillA places (splice cs off vs) r | _, _ => none
    | _, _ => none
def repC (z : List AV) : Nat → List AV
  | 0 => []
  | n + 1 => z ++ repC z n
section
variable (P : Program) (TT : TypeId → Option TI)
def placesT : List (Nat × TypeId) → Option (List (Nat × Nat))
  | [] => some []
  | (off, t) :: r => match TT t, placesT r with | some i, some ps => some ((off, i.size) :: ps) | _, _ => none
def buildA (t : TypeId) (parts : List (Nat × AV)) : Option AV :=
  match TT t with
  | some ⟨.strct fs, _, _, z⟩ => match placesT TT fs with | some ps => (fillA ps z parts).map .agg | none => none
  | some ⟨.arr n e, _, _, z⟩ => match TT e with | some i => (fillA ((List.range n).map fun j => (j * i.size, i.size)) z parts).map .agg | none => none
  | _ => none
def loadW (i : TI) (a : AV) (σ : Hp) (K : AV → Prop) : Prop :=
  match a with
  | .eptr cs => match readAs i cs 0 with | some v => K v | none => False
  | .ptr b o => LoadAt i σ b o K
  | _ => False
def cmpW (b : Bool) (K : AV → Prop) : Prop := bcond b (K (.bool true)) (K (.bool false))
def nilEq (k : TK) (want : Bool) (x y : AV) (K : AV → Prop) : Prop :=
  match k, x, y with
  | .ptr _, .nilp, .nilp => K (.bool want)
  | .ptr _, .ptr _ _, .nilp => K (.bool !want)
  | .ptr _, .eptr _, .nilp => K (.bool !want)
  | .slice _, .nils, .nils => K (.bool want)
  | .slice _, .mref _ _ _ _, .nils => K (.bool !want)
  | .slice _, .esl, .nils => K (.bool !want)
  | .slice _, .fsl _ l, .nils => With (0 < l.length) (K (.bool !want))
  | .iface, .nilif, .nilif => K (.bool want)
  | .iface, .iface _ _, .nilif => K (.bool !want)
  | .func, .nilfn, .nilfn => K (.bool want)
  | .func, .fn _ _ _, .nilfn => K (.bool !want)
  | _, _, _ => False
def opConst : Operand → Bool
  | .const _ => true
  | _ => false
def intW (op : BinOp) (k : IntKind) (a b : Int) (K : AV → Prop) : Prop :=
  match op with
  | .add => K (.int k (k.wrap (a + b)))
  | .sub => K (.int k (k.wrap (a - b)))
  | .mul => K (.int k (k.wrap (a * b)))
  | .quo => With (b ≠ 0) (K (.int k (k.wrap (a.tdiv b))))
  | .rem => With (b ≠ 0) (K (.int k (a.tmod b)))
  | .and | .or | .xor | .andNot => K (.int k (bits op k a b))
  | .eql => cmpW (decide (a = b)) K
  | .neq => cmpW (!decide (a = b)) K
  | .lss => cmpW (decide (a < b)) K
  | .leq => cmpW (decide (a ≤ b)) K
  | .gtr => cmpW (decide (b < a)) K
  | .geq => cmpW (decide (b ≤ a)) K
  | _ => False
def shiftW (op : BinOp) (k : IntKind) (a b : Int) (K : AV → Prop) : Prop :=
  match op with
  | .shl => With (0 ≤ b) (K (.int k (k.wrap (a * 2 ^ (min b.toNat k.bits)))))
  | .shr => With (0 ≤ b) (K (.int k (a.fdiv (2 ^ (min b.toNat k.bits)))))
  | _ => False
def binW (op : BinOp) (t : TypeId) (y0 : Operand) (x y : AV) (K : AV → Prop) : Prop :=
  match x, y with
  | .int k a, .int k' b => match op with
    | .shl | .shr => shiftW op k a b K
    | _ => match decide (k = k') with | true => intW op k a b K | false => False
  | .bool a, .bool b => match TT t with
    | some ⟨.bool, _, _, _⟩ => (match op with | .eql => cmpW (a == b) K | .neq => cmpW (!(a == b)) K | _ => False)
    | _ => False
  | .str a, .str b => match op with | .eql => cmpW (a.toList == b.toList) K | .neq => cmpW (!(a.toList == b.toList)) K | _ => False
  | x, y => match opConst y0, TT t with
    | true, some i => (match op with | .eql => nilEq i.k true x y K | .neq => nilEq i.k false x y K | _ => False)
    | _, _ => False
def leafEq : AV → AV → Bool
  | .int _ a, .int _ b => decide (a = b)
  | .bool a, .bool b => a == b
  | .str a, .str b => a.toList == b.toList
  | _, _ => false
def eqAll (xs ys : List AV) : List Bool := List.zipWith leafEq xs ys
def allB (l : List Bool) : Bool := l.all id
def eqFs (TT : TypeId → Option TI) (rec : TypeId → AV → AV → Option (List Bool)) (xs ys : List AV) : List Field → Option (List Bool)
  | [] => some []
  | f :: fs => match f.name == "_", TT f.type with
    | false, some i => match readAs i xs f.offset, readAs i ys f.offset with
      | some a, some b => match rec f.type a b, eqFs TT rec xs ys fs with | some l, some l' => some (l ++ l') | _, _ => none
      | _, _ => none
    | _, _ => none
def eqIs (TT : TypeId → Option TI) (rec : TypeId → AV → AV → Option (List Bool)) (e : TypeId) (c : Nat) (xs ys : List AV) : List Nat → Option (List Bool)
  | [] => some []
  | k :: ks => match TT e with
    | some i => match readAs i xs (k * c), readAs i ys (k * c) with
      | some a, some b => match rec e a b, eqIs TT rec e c xs ys ks with | some l, some l' => some (l ++ l') | _, _ => none
      | _, _ => none
    | none => none
def eqV (P : Program) (TT : TypeId → Option TI) : Nat → TypeId → AV → AV → Option (List Bool)
  | 0, _, _, _ => none
  | d + 1, t, x, y => match P.underlying t, x, y with
    | some .bool, .bool a, .bool b => some [a == b]
    | some (.int _), .int k a, .int k' b => (match decide (k = k') with | true => some [decide (a = b)] | false => none)
    | some .string, .str a, .str b => some [a.toList == b.toList]
    | some (.struct fs), .agg xs, .agg ys => (match P.stoodInHeld t with | true => none | false => eqFs TT (eqV P TT d) xs ys fs.toList)
    | some (.array n e), .agg xs, .agg ys => (match TT e with | some _ => eqIs TT (eqV P TT d) e (P.cellsOf e) xs ys (List.range n) | none => none)
    | _, _, _ => none
inductive EqAt (P : Program) (TT : TypeId → Option TI) (t : TypeId) (xs ys : List AV) (K : Bool → Prop) : Prop where
  | mk (h1 : P.eqGuardType P.depth t = false) (h2 : eqV P TT 8 t (.agg xs) (.agg ys) = some (eqAll xs ys)) (go : K (allB (eqAll xs ys))) : EqAt P TT t xs ys K
/-- A whole number that a float64 holds exactly. -/
def fits53 (n : Int) : Prop := n.natAbs < 9007199254740992
def cpxW (op : BinOp) (a b c d : Int) (K : AV → Prop) : Prop :=
  match op with
  | .add => With (fits53 (a + c) ∧ fits53 (b + d)) (K (.cpx (a + c) (b + d)))
  | .sub => With (fits53 (a - c) ∧ fits53 (b - d)) (K (.cpx (a - c) (b - d)))
  | .mul => With ((fits53 (a * c) ∧ fits53 (b * d) ∧ fits53 (a * c - b * d)) ∧ fits53 (a * d) ∧ fits53 (b * c) ∧ fits53 (a * d + b * c)) (K (.cpx (a * c - b * d) (a * d + b * c)))
  | _ => False
def cplxW (x y : AV) (K : AV → Prop) : Prop := match x, y with | .flt a, .flt b => K (.cpx a b) | _, _ => False
def realW (x : AV) (K : AV → Prop) : Prop := match x with | .cpx a _ => K (.flt a) | _ => False
def imagW (x : AV) (K : AV → Prop) : Prop := match x with | .cpx _ b => K (.flt b) | _ => False
def binA (P : Program) (TT : TypeId → Option TI) (op : BinOp) (t : TypeId) (y0 : Operand) (x y : AV) (K : AV → Prop) : Prop :=
  match x, y with
  | .agg xs, .agg ys => match op with
    | .eql => EqAt P TT t xs ys fun b => cmpW b K
    | .neq => EqAt P TT t xs ys fun b => cmpW (!b) K
    | _ => False
  | .cpx a b, .cpx c d => cpxW op a b c d K
  | x, y => binW TT op t y0 x y K
def unW (op : UnOp) (x : AV) (K : AV → Prop) : Prop :=
  match op, x with
  | .not, .bool b => K (.bool !b)
  | .neg, .int k n => K (.int k (k.wrap (0 - n)))
  | .xor, .int k n => K (.int k (bits .xor k (if k.signed then -1 else k.max) n))
  | .neg, .flt n => K (.flt (-n))
  | _, _ => False
def convW (s d : TypeId) (x : AV) (K : AV → Prop) : Prop :=
  match TT s, TT d, x with
  | some _, some ⟨.int k, _, _, _⟩, .int _ n => K (.int k (k.wrap n))
  | some _, some ⟨.flt, _, _, _⟩, .int _ n => With (fits53 n) (K (.flt n))
  | some _, some ⟨.int k, _, _, _⟩, .flt n => With (k.min ≤ n ∧ n ≤ k.max) (K (.int k n))
  | _, _, _ => False
def loInt : Option AV → Option Int
  | none => some 0
  | some (.int _ n) => some n
  | _ => none
def hiInt (len : Nat) : Option AV → Option Int
  | none => some len
  | some (.int _ n) => some n
  | _ => none
def sliceW (t : TypeId) (x : AV) (lo hi mx : Option AV) (K : AV → Prop) : Prop :=
  match TT t, mx with
  | some ⟨.slice e, _, _, _⟩, none => match TT e, x with
    | some i, .mref b off len es => match loInt lo, hiInt len hi with
      | some l, some h => With (0 ≤ l ∧ l ≤ h ∧ h ≤ len ∧ i.size = es) (K (.mref b (off + l.toNat * es) (h.toNat - l.toNat) es))
      | _, _ => False
    | some i, .fsl s xs => match loInt lo, hiInt xs.length hi with
      | some l, some h => With (0 ≤ l ∧ l ≤ h ∧ h ≤ xs.length ∧ i.size = s.size) (K (.fsl s ((xs.drop l.toNat).take (h.toNat - l.toNat))))
      | _, _ => False
    | some _, .nils => match loInt lo, hiInt 0 hi with
      | some l, some h => With (0 ≤ l ∧ l ≤ h ∧ h ≤ (0 : Nat)) (K .nils)
      | _, _ => False
    | _, _ => False
  | some ⟨.slice e, _, _, _⟩, some (.int _ m) => match TT e, x, hi with
    | some i, .mref b off len es, some (.int _ h) => match loInt lo with
      | some l => With (0 ≤ l ∧ l ≤ h ∧ h ≤ m ∧ m ≤ len ∧ i.size = es) (K (.mref b (off + l.toNat * es) (h.toNat - l.toNat) es))
      | _ => False
    | _, _, _ => False
  | _, _ => False
def indexAddrW (t : TypeId) (x ix : AV) (K : AV → Prop) : Prop :=
  match TT t, ix with
  | some ⟨.slice e, _, _, _⟩, .int _ n => match TT e, x with
    | some i, .fsl s l => With (i.size = s.size) (IdxF l n fun d => K (.eptr (s.cells d)))
    | some i, .mref b off len es => With (i.size = es ∧ 0 ≤ n ∧ n < len) (K (.ptr b (off + n.toNat * es)))
    | _, _ => False
  | some ⟨.arr m e, _, _, _⟩, .int _ n => match TT e, x with
    | some i, .ptr b o => With (0 ≤ n ∧ n < m) (K (.ptr b (o + n.toNat * i.size)))
    | some i, .eptr cs => With (0 ≤ n ∧ n < m) (K (.eptr (cs.drop (n.toNat * i.size))))
    | _, _ => False
  | _, _ => False
/-- What a map has of a key; a map with a key's value. -/
def getM : List (Int × Int) → Int → Option Int
  | [], _ => none
  | p :: l, n => if p.1 = n then some p.2 else getM l n
def putM : List (Int × Int) → Int → Int → List (Int × Int)
  | [], n, x => [(n, x)]
  | p :: l, n, x => if p.1 = n then (n, x) :: l else p :: putM l n x
/-- A map of numbers by numbers, by its block's place. -/
inductive MapAt (σ : Hp) (m : AV) (K : Nat → Nat → List (Int × Int) → Prop) : Prop where
  | mk (j b : Nat) (l : List (Int × Int)) (hm : m = .mapr b) (h1 : σ[j]? = some (b, [.mapc l])) (go : K j b l) : MapAt σ m K
/-- The type of such a map; its elements' zero. -/
def mapZ (t : TypeId) : Option Int := match TT t with
  | some ⟨.map k e, _, _, _⟩ => (match TT k, TT e with | some ⟨.int .i64, _, _, _⟩, some ⟨.int .i64, _, _, [.int .i64 z]⟩ => some z | _, _ => none)
  | _ => none
def lookupW (t : TypeId) (m k : AV) (c : Bool) (σ : Hp) (K : AV → Prop) : Prop :=
  match mapZ TT t, k with
  | some z, .int .i64 n => MapAt σ m fun _ _ l => (match c with | true => K (.tup [.int .i64 ((getM l n).getD z), .bool (getM l n).isSome]) | false => K (.int .i64 ((getM l n).getD z)))
  | _, _ => False
def fieldAddrW (s : TypeId) (x : AV) (f : Nat) (K : AV → Prop) : Prop :=
  match TT s with
  | some ⟨.strct fs, _, _, _⟩ => match fs[f]? with
    | some (off, t) => match TT t with
      | some i => match Nat.blt 0 i.size, x with
        | true, .ptr b o => K (.ptr b (o + off))
        | true, .eptr cs => K (.eptr (cs.drop off))
        | _, _ => False
      | none => False
    | none => False
  | _ => False
def fieldW (s : TypeId) (x : AV) (f : Nat) (K : AV → Prop) : Prop :=
  match TT s, x with
  | some ⟨.strct fs, _, _, _⟩, .agg cs => match fs[f]? with
    | some (off, t) => match TT t with | some i => (match readAs i cs off with | some v => K v | none => False) | none => False
    | none => False
  | _, _ => False
def lenW (k : TK) (x : AV) (K : AV → Prop) : Prop :=
  match k, x with
  | .slice _, .fsl _ l => K (.int .i64 l.length)
  | .slice _, .mref _ _ len _ => K (.int .i64 len)
  | .slice _, .nils => K (.int .i64 0)
  | .slice _, .zsl => K (.int .i64 0)
  | .slice _, .esl => K (.int .i64 0)
  | _, _ => False
def capW (k : TK) (x : AV) (K : AV → Prop) : Prop :=
  match k, x with
  | .slice _, .nils => K (.int .i64 0)
  | .slice _, .zsl => K (.int .i64 0)
  | _, _ => False
def minW (xs : List AV) (K : AV → Prop) : Prop :=
  match xs with
  | [.int k a, .int k' b] => match decide (k = k') with | true => K (.int k (if b < a then b else a)) | false => False
  | _ => False
def maxW (xs : List AV) (K : AV → Prop) : Prop :=
  match xs with
  | [.int k a, .int k' b] => match decide (k = k') with | true => K (.int k (if a < b then b else a)) | false => False
  | _ => False
/-- A method value over a pointer of type t: no nil is met on the way to its receiver. -/
def AheadOk (t : TypeId) (m : String) : Prop := ∀ (a : Addr) (w : World), (nilAhead (P.types.size + Made.depth) t (.pointer (some a)) m).run P w = .ok (some false) w
inductive AheadAt (t : TypeId) (m : String) (X : Prop) : Prop where
  | mk (h : AheadOk P t m) (go : X) : AheadAt t m X
/-- An operation that leaves the memory alone. -/
def opD (op : Op) (ρ : Operand → AV) (σ : Hp) (K : AV → Prop) : Prop :=
  match op with
  | .move x | .assign x => strict (ρ x) K
  | .pick c a b => match ρ c with | .bool x => (match x with | true => strict (ρ a) K | false => strict (ρ b) K) | _ => False
  | .build t parts => match buildA TT t (parts.toList.map fun p => (p.1, ρ p.2)) with | some v => K v | none => False
  | .load t a => match TT t with | some i => loadW i (ρ a) σ K | none => False
  | .nilCheck x => match ρ x with | .ptr b o => K (.ptr b o) | .eptr cs => K (.eptr cs) | .fn (.func f) a c => K (.fn (.func f) a c) | .fn (.method m) [.iface t (.ptr b o)] c => AheadAt P t m (K (.fn (.method m) [.iface t (.ptr b o)] c)) | .iface t v => K (.iface t v) | _ => False
  | .binOp op t x y _ => binA P TT op t y (unvia (ρ x)) (unvia (ρ y)) K
  | .unOp op _ x => unW op (ρ x) K
  | .convert s d x => convW TT s d (ρ x) K
  | .makeInterface t x => match TT t with | some ⟨.iface, _, _, _⟩ => False | some _ => K (.iface t (ρ x)) | none => False
  | .makeFunc f first cap => K (.fn f (first.toList.map ρ) (cap.toList.map ρ))
  | .slice t x lo hi mx => sliceW TT t (unvia (ρ x)) (lo.map fun x => unvia (ρ x)) (hi.map fun x => unvia (ρ x)) (mx.map fun x => unvia (ρ x)) K
  | .fieldAddr s x f => fieldAddrW TT s (ρ x) f K
  | .field s x f => fieldW TT s (ρ x) f K
  | .indexAddr t x ix => indexAddrW TT t (unvia (ρ x)) (unvia (ρ ix)) K
  | .typeAssert x _ t ok => match ok, TT t, ρ x with
    | true, some ⟨.ptr _, _, _, [.nilp]⟩, .iface t' v => (match Nat.beq t' t with | true => K (.tup [v, .bool true]) | false => K (.tup [.nilp, .bool false]))
    | true, some ⟨.ptr _, _, _, [.nilp]⟩, .nilif => K (.tup [.nilp, .bool false])
    | _, _, _ => False
  | .lookup t m k c => lookupW TT t (unvia (ρ m)) (unvia (ρ k)) c σ K
  | .extract x i => match ρ x with | .tup vs => (match vs[i]? with | some v => K v | none => False) | _ => False
  | .call ⟨.builtin .len, args, tys⟩ => match args.toList, tys.toList with | [x], [t] => (match TT t with | some i => lenW i.k (unvia (ρ x)) K | none => False) | _, _ => False
  | .call ⟨.builtin .min, args, _⟩ => match args.toList with | [x, y] => minW [ρ x, ρ y] K | _ => False
  | .call ⟨.builtin .max, args, _⟩ => match args.toList with | [x, y] => maxW [ρ x, ρ y] K | _ => False
  | .call ⟨.builtin .complex, args, _⟩ => match args.toList with | [x, y] => cplxW (ρ x) (ρ y) K | _ => False
  | .call ⟨.builtin .real, args, _⟩ => match args.toList with | [x] => realW (ρ x) K | _ => False
  | .call ⟨.builtin .imag, args, _⟩ => match args.toList with | [x] => imagW (ρ x) K | _ => False
  | .call ⟨.builtin .cap, args, tys⟩ => match args.toList, tys.toList with | [x], [t] => (match TT t with | some i => capW i.k (unvia (ρ x)) K | none => False) | _, _ => False
  | _ => False
end
end Go.Proofs.Ytacacplipaeokaa
