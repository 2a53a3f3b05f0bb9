/- The abstract evaluator: pure values, local blocks, and what a Go function's operations do to them. No condition. What the abstract values say of memory: the relations, and what keeps them. No condition. Each operation of the abstract evaluator, held against the model's. No condition. Loads, stores, new blocks, held against the model's memory. No condition. Stores and new blocks, held against the model's memory. No condition. Stores through an address, held against the model's. No condition. Addresses, parts, equality, held against the model's. No condition. Equality, ended. No condition. Freezing, slices, literals of slices, conversions, held against the model's. No condition. -/
import Derived.Calls
import Derived.Laws.AppendOwn
import Derived.Laws.CopyRow
import Derived.Laws.MakeOwn
import Derived.Laws.OwnMore
import Derived.Laws.Rows
import Derived.Laws.StructEq
import Derived.Laws.Tables
import Derived.Laws.BytesString
import Derived.Laws.IdiomStrings
import Derived.Lib.SliceRun
import Derived.WalkSpells
import Derived.ChangeKeysEq
set_option linter.unusedSimpArgs false
set_option linter.unusedVariables false
namespace Go.Ab
open Go

inductive PV where
  | int (k : IntKind) (n : Int)
  | bool (b : Bool)
  | str (s : List UInt8)
  | sl (es : List (List PV))
  | fn (g : Nat) (first : List (Bool × List PV))
  | nilf
  deriving Inhabited

inductive Id where
  | par (n : Nat)
  | loc (n : Nat)
  deriving DecidableEq, Inhabited

inductive C where
  | p (v : PV)
  | ptr (id : Id) (o : Nat)
  | ap (id : Id) (n i o : Nat)
  | rp (cs : List PV)
  | nilp
  | os (id : Id) (n : Nat)
  | nils
  | ti (es : List (List PV))
  | fn (g : FuncId) (caps : List Id)
  | nilf
  | bp (g : FuncId) (id : Id) (o : Nat)
  | ms (id : Id) (n : Nat)
  deriving Inhabited

inductive AV where
  | un
  | c (c : C)
  | agg (cs : List PV)
  | mg (cs : List C)
  | tup (vs : List AV)
  deriving Inhabited

inductive Blk where
  | row (cs : List PV)
  | mrow (cs : List C)
  | arr (sz : Nat) (fz : Bool) (es : List (List PV))
  | hole
  deriving Inhabited

structure Hp where
  par : List Blk
  loc : List Blk
  deriving Inhabited

def Hp.get (H : Hp) : Id → Option Blk
  | .par n => H.par[n]?
  | .loc n => H.loc[n]?

def Hp.set (H : Hp) (id : Id) (b : Blk) : Hp :=
  match id with
  | .par n => { H with par := H.par.set n b }
  | .loc n => { H with loc := H.loc.set n b }

def Hp.add (H : Hp) (b : Blk) : Hp := { H with loc := H.loc ++ [b] }
def Hp.nid (H : Hp) : Id := .loc H.loc.length

abbrev Tm := List (Nat × AV)

def Tm.get : Tm → Nat → AV
  | [], _ => .un
  | (u, v) :: r, t => match Nat.beq u t with
    | true => v
    | false => Tm.get r t

def Tm.put (T : Tm) (t : Option Nat) (v : AV) : Tm :=
  match t with
  | some t => (t, v) :: T
  | none => T

/-- What the package level variables hold. -/
abbrev Gl := Nat → Option (List PV)

/-- Cells that are data, the nil slice one of them. -/
def pureZ : List C → Option (List PV)
  | [] => some []
  | .p v :: r => match pureZ r with
    | some l => some (v :: l)
    | none => none
  | .nils :: r => match pureZ r with
    | some l => some (.sl [] :: l)
    | none => none
  | _ => none

/-- A constant of the code. -/
def constC : Value → Option C
  | .int k n => some (.p (.int k n))
  | .bool b => some (.p (.bool b))
  | .string s => some (.p (.str s.data.toList))
  | .pointer none => some .nilp
  | .slice none 0 0 => some .nils
  | .nilFunc => some (.p .nilf)
  | _ => none

def allPure : List C → Option (List PV)
  | [] => some []
  | .p v :: r => match allPure r with
    | some l => some (v :: l)
    | none => none
  | _ => none

/-- An aggregate of cells: pure where all cells are. -/
def mkAgg (cs : List C) : AV := match allPure cs with | some ps => .agg ps | none => .mg cs

def constCs : List Value → Option (List C)
  | [] => some []
  | v :: r => match constC v, constCs r with
    | some c, some cs => some (c :: cs)
    | _, _ => none

def constA : Value → Option AV
  | .agg cs => match constCs cs.toList with | some l => some (mkAgg l) | none => none
  | v => match constC v with | some c => some (.c c) | none => none

/-- An operand. -/
inductive SA where
  | t (t : Nat)
  | v (v : AV)
  | g (g : Nat)
  deriving Inhabited

def compA : Operand → Option SA
  | .tmp t => some (.t t)
  | .const c => match constA c with | some v => some (.v v) | none => none
  | .global g => some (.g g)
  | .func f => some (.v (.c (.fn f [])))

def evS (G : Gl) (T : Tm) : SA → AV
  | .t t => T.get t
  | .v v => v
  | .g g => match G g with | some cs => .c (.rp cs) | none => .un

/-- The cells of a value. -/
def cellsA : AV → Option (List C)
  | .c c => some [c]
  | .agg cs => some (cs.map .p)
  | .mg cs => some cs
  | _ => none

def mkRow : AV → Option Blk
  | .c (.p v) => some (.row [v])
  | .c c => some (.mrow [c])
  | .agg cs => some (.row cs)
  | .mg cs => some (.mrow cs)
  | _ => none

/-- A type as memory sees it: is it a struct or an array, how many cells has it. -/
def shapeT (P : Program) (t : TypeId) : Option (Bool × Nat) :=
  match P.info? t, P.underlying t with
  | some i, some (.struct _) => some (true, i.size)
  | some i, some (.array _ _) => some (true, i.size)
  | some i, some _ => some (false, i.size)
  | _, _ => none

structure Res where
  pre : Bool
  v : AV
  h : Hp

def ret (v : AV) (h : Hp) : Option Res := some ⟨true, v, h⟩

def partP (agg : Bool) (n : Nat) (cs : List PV) (o : Nat) : Option (Bool × AV) :=
  match agg with
  | true => some (decide (o + n ≤ cs.length), .agg ((cs.drop o).take n))
  | false => match cs[o]? with
    | some v => some (true, .c (.p v))
    | none => none

def partM (agg : Bool) (n : Nat) (cs : List C) (o : Nat) : Option (Bool × AV) :=
  match agg with
  | true => some (decide (o + n ≤ cs.length), mkAgg ((cs.drop o).take n))
  | false => match cs[o]? with
    | some v => some (true, .c v)
    | none => none

def resOf (h : Hp) : Option (Bool × AV) → Option Res
  | some (b, v) => some ⟨b, v, h⟩
  | none => none

def loadS (agg : Bool) (n : Nat) (a : AV) (H : Hp) : Option Res :=
  match a with
  | .c (.rp cs) => resOf H (partP agg n cs 0)
  | .c (.ptr id o) => match H.get id with
    | some (.row cs) => resOf H (partP agg n cs o)
    | some (.mrow cs) => resOf H (partM agg n cs o)
    | _ => none
  | .c (.ap id m i o) => match H.get id with
    | some (.arr _ _ es) => match es[i]? with
      | some cs => match partP agg n cs o with
        | some (b, v) => some ⟨b && decide (m = es.length), v, H⟩
        | none => none
      | none => none
    | _ => none
  | _ => none

def putAt {α : Type} (cs : List α) (o : Nat) (vs : List α) : List α := cs.take o ++ vs ++ cs.drop (o + vs.length)

def storeS (n : Nat) (a v : AV) (H : Hp) : Option Res :=
  match a with
  | .c (.ptr id o) => match H.get id, v with
    | some (.row cs), .c (.p u) => some ⟨decide (n = 1 ∧ o + 1 ≤ cs.length), .tup [], H.set id (.row (putAt cs o [u]))⟩
    | some (.row cs), .agg us => some ⟨decide (n = us.length ∧ o + us.length ≤ cs.length), .tup [], H.set id (.row (putAt cs o us))⟩
    | some (.row cs), .c u => some ⟨decide (n = 1 ∧ o + 1 ≤ cs.length), .tup [], H.set id (.mrow (putAt (cs.map .p) o [u]))⟩
    | some (.row cs), .mg us => some ⟨decide (n = us.length ∧ o + us.length ≤ cs.length), .tup [], H.set id (.mrow (putAt (cs.map .p) o us))⟩
    | some (.mrow cs), .c u => some ⟨decide (n = 1 ∧ o + 1 ≤ cs.length), .tup [], H.set id (.mrow (putAt cs o [u]))⟩
    | some (.mrow cs), .agg us => some ⟨decide (n = us.length ∧ o + us.length ≤ cs.length), .tup [], H.set id (.mrow (putAt cs o (us.map .p)))⟩
    | some (.mrow cs), .mg us => some ⟨decide (n = us.length ∧ o + us.length ≤ cs.length), .tup [], H.set id (.mrow (putAt cs o us))⟩
    | _, _ => none
  | .c (.ap id m i o) => match H.get id, v with
    | some (.arr sz false es), .c (.p u) => match es[i]? with
      | some cs => some ⟨decide (n = 1 ∧ o + 1 ≤ cs.length ∧ m = es.length), .tup [], H.set id (.arr sz false (es.set i (putAt cs o [u])))⟩
      | none => none
    | some (.arr sz false es), .agg us => match es[i]? with
      | some cs => some ⟨decide (n = us.length ∧ o + us.length ≤ cs.length ∧ m = es.length), .tup [], H.set id (.arr sz false (es.set i (putAt cs o us)))⟩
      | none => none
    | _, _ => none
  | _ => none

/-- What an integer operator gives, and under which condition. -/
def bitsA (op : BinOp) (k : IntKind) (x y : Int) : Option Int :=
  match op with
  | .and => some (k.wrap (BitVec.ofInt k.bits x &&& BitVec.ofInt k.bits y).toNat)
  | .or => some (k.wrap (BitVec.ofInt k.bits x ||| BitVec.ofInt k.bits y).toNat)
  | .xor => some (k.wrap (BitVec.ofInt k.bits x ^^^ BitVec.ofInt k.bits y).toNat)
  | .andNot => some (k.wrap (BitVec.ofInt k.bits x &&& ~~~BitVec.ofInt k.bits y).toNat)
  | _ => none

def intA (op : BinOp) (k : IntKind) (x y : Int) : Option (Bool × PV) :=
  match op with
  | .add => some (true, .int k (k.wrap (x + y)))
  | .sub => some (true, .int k (k.wrap (x - y)))
  | .mul => some (true, .int k (k.wrap (x * y)))
  | .quo => some (!decide (y = 0), .int k (k.wrap (x.tdiv y)))
  | .rem => some (!decide (y = 0), .int k (x.tmod y))
  | .and => some (true, .int k (k.wrap (BitVec.ofInt k.bits x &&& BitVec.ofInt k.bits y).toNat))
  | .or => some (true, .int k (k.wrap (BitVec.ofInt k.bits x ||| BitVec.ofInt k.bits y).toNat))
  | .xor => some (true, .int k (k.wrap (BitVec.ofInt k.bits x ^^^ BitVec.ofInt k.bits y).toNat))
  | .andNot => some (true, .int k (k.wrap (BitVec.ofInt k.bits x &&& ~~~BitVec.ofInt k.bits y).toNat))
  | .eql => some (true, .bool (decide (x = y)))
  | .neq => some (true, .bool (!decide (x = y)))
  | .lss => some (true, .bool (decide (x < y)))
  | .leq => some (true, .bool (decide (x ≤ y)))
  | .gtr => some (true, .bool (decide (x > y)))
  | .geq => some (true, .bool (decide (x ≥ y)))
  | _ => none

def shiftA (op : BinOp) (k : IntKind) (x y : Int) : Option (Bool × PV) :=
  match op with
  | .shl => some (decide (0 ≤ y), .int k (k.wrap (x * 2 ^ (min y.toNat k.bits))))
  | .shr => some (decide (0 ≤ y), .int k (x.fdiv (2 ^ (min y.toNat k.bits))))
  | _ => none

/-- The kinds of cells that '==' compares. -/
inductive LK where
  | int (k : IntKind)
  | bool
  | str
  deriving DecidableEq, Inhabited

/-- Are cells equal? -/
def eqCells : List LK → List PV → List PV → Option Bool
  | [], [], [] => some true
  | .int k :: ks, .int k1 a :: r, .int k2 b :: s => match decide (k1 = k) && decide (k2 = k), eqCells ks r s with
    | true, some q => some (decide (a = b) && q)
    | _, _ => none
  | .bool :: ks, .bool a :: r, .bool b :: s => match eqCells ks r s with
    | some q => some (decide (a = b) && q)
    | none => none
  | .str :: ks, .str a :: r, .str b :: s => match eqCells ks r s with
    | some q => some (decide (a = b) && q)
    | none => none
  | _, _, _ => none

/-- The kinds of a struct's cells, where its fields lie side by side and fill it. -/
def kindsF (P : Program) (pe : TypeId → Option (List LK)) : List Field → Nat → Nat → Option (List LK)
  | [], o, n => match o == n with
    | true => some []
    | false => none
  | f :: fs, o, n => match f.name != "_" && f.offset == o, pe f.type, shapeT P f.type with
    | true, some ks, some (_, k) => match kindsF P pe fs (o + k) n with
      | some r => some (ks ++ r)
      | none => none
    | _, _, _ => none

def repK {α : Type} (l : List α) : Nat → List α
  | 0 => []
  | n + 1 => l ++ repK l n

/-- The kinds of the cells of a type whose '==' holds cell by cell. -/
def kindsT (P : Program) : Nat → TypeId → Option (List LK)
  | 0, _ => none
  | d + 1, t => match P.underlying t, shapeT P t with
    | some .bool, some (_, 1) => some [.bool]
    | some (.int k), some (_, 1) => some [.int k]
    | some .string, some (_, 1) => some [.str]
    | some (.struct fs), some (_, n) => match P.stoodInHeld t with
      | false => kindsF P (kindsT P d) fs.toList 0 n
      | true => none
    | some (.array k e), some (_, n) => match kindsT P d e, shapeT P e with
      | some ks, some (_, m) => match k * m == n with
        | true => some (repK ks k)
        | false => none
      | _, _ => none
    | _, _ => none

/-- What '==' compares. -/
inductive EK where
  | int | bool | str | ptr
  | agg (ks : List LK)
  deriving Inhabited

def eqS (n : EK) (a b : AV) : Option (Bool × Bool) :=
  match n, a, b with
  | .int, .c (.p (.int k a)), .c (.p (.int k' b)) => match decide (k = k') with
    | true => some (true, decide (a = b))
    | false => none
  | .bool, .c (.p (.bool a)), .c (.p (.bool b)) => some (true, decide (a = b))
  | .str, .c (.p (.str a)), .c (.p (.str b)) => some (true, decide (a = b))
  | .agg ks, .agg as, .agg bs => match eqCells ks as bs with
    | some r => some (true, r)
    | none => none
  | .ptr, .c .nilp, .c .nilp => some (true, true)
  | .ptr, .c .nilp, .c (.ptr ..) | .ptr, .c (.ptr ..), .c .nilp | .ptr, .c .nilp, .c (.rp _) | .ptr, .c (.rp _), .c .nilp => some (true, false)
  | _, _, _ => none

def strA (op : BinOp) (a b : List UInt8) : Option (Bool × PV) :=
  match op with
  | .add => some (decide (a.length + b.length < 2 ^ 63), .str (a ++ b))
  | _ => none

def binS (op : BinOp) (a b : AV) : Option (Bool × AV) :=
  match a, b with
  | .c (.p (.int k m)), .c (.p (.int k' n)) =>
    match decide (k = k'), intA op k m n with
    | true, some (b, v) => some (b, .c (.p v))
    | _, _ => none
  | .c (.p (.str m)), .c (.p (.str n)) => match strA op m n with
    | some (b, v) => some (b, .c (.p v))
    | none => none
  | _, _ => none

def shS (op : BinOp) (a b : AV) : Option (Bool × AV) :=
  match a, b with
  | .c (.p (.int k m)), .c (.p (.int _ n)) => match shiftA op k m n with
    | some (b, v) => some (b, .c (.p v))
    | none => none
  | _, _ => none

def unS (op : UnOp) (a : AV) : Option AV :=
  match op, a with
  | .not, .c (.p (.bool b)) => some (.c (.p (.bool (!b))))
  | .neg, .c (.p (.int k n)) => some (.c (.p (.int k (k.wrap (0 - n)))))
  | .xor, .c (.p (.int k n)) => some (.c (.p (.int k (k.wrap (BitVec.ofInt k.bits (if k.signed then -1 else k.max) ^^^ BitVec.ofInt k.bits n).toNat))))
  | _, _ => none

def bytesOf (s : List UInt8) : List (List PV) := s.map fun b => [.int .u8 b.toNat]
def unbytes : List (List PV) → Option (List UInt8)
  | [] => some []
  | [.int .u8 n] :: r => match unbytes r with
    | some l => some (UInt8.ofNat n.toNat :: l)
    | none => none
  | _ => none

/-- A slice's elements, read only. -/
def elemsA (H : Hp) : C → Option (Bool × List (List PV))
  | .p (.sl es) => some (true, es)
  | .ti es => some (true, es)
  | .nils => some (true, [])
  | .os id n => match H.get id with
    | some (.arr _ _ es) => some (decide (n = es.length), es)
    | _ => none
  | _ => none

/-- An address plus so many cells. -/
def addC (c : C) (n : Nat) : Option C :=
  match c with
  | .ptr id o => some (.ptr id (o + n))
  | .ap id m i o => some (.ap id m i (o + n))
  | .rp cs => some (.rp (cs.drop n))
  | _ => none

def fieldAddrS (off : Nat) (a : AV) (H : Hp) : Option Res :=
  match a with
  | .c c => match addC c off with | some c => ret (.c c) H | none => none
  | _ => none

def fieldS (off : Nat) (agg : Bool) (n : Nat) (a : AV) (H : Hp) : Option Res :=
  match a with
  | .agg cs => resOf H (partP agg n cs off)
  | .mg cs => resOf H (partM agg n cs off)
  | _ => none

def ixArr (len n : Nat) (a i : AV) (H : Hp) : Option Res :=
  match a, i with
  | .c c, .c (.p (.int _ i)) => match addC c (i.toNat * n) with
    | some c => some ⟨decide (0 ≤ i ∧ i < len), .c c, H⟩
    | none => none
  | _, _ => none

def ixSl (m : Nat) (a i : AV) (H : Hp) : Option Res :=
  match a, i with
  | .c (.os id n), .c (.p (.int _ i)) => match H.get id with
    | some (.arr sz _ es) => some ⟨decide (0 ≤ i ∧ i < n ∧ m = sz ∧ n = es.length), .c (.ap id n i.toNat 0), H⟩
    | _ => none
  | .c (.p (.sl es)), .c (.p (.int _ i)) => match es[i.toNat]? with
    | some cs => some ⟨decide (0 ≤ i ∧ m = cs.length), .c (.rp cs), H⟩
    | none => none
  | .c (.ti es), .c (.p (.int _ i)) => match es[i.toNat]? with
    | some cs => some ⟨decide (0 ≤ i ∧ m = cs.length), .c (.rp cs), H⟩
    | none => none
  | .c (.ms id n), .c (.p (.int _ i)) => some ⟨decide (0 ≤ i ∧ i < n ∧ m = 1), .c (.ptr id i.toNat), H⟩
  | _, _ => none

def ixAgg (len : Nat) (agg : Bool) (n : Nat) (a i : AV) (H : Hp) : Option Res :=
  match a, i with
  | .agg cs, .c (.p (.int _ i)) => match partP agg n cs (i.toNat * n) with
    | some (b, v) => some ⟨b && decide (0 ≤ i ∧ i < len), v, H⟩
    | none => none
  | .mg cs, .c (.p (.int _ i)) => match partM agg n cs (i.toNat * n) with
    | some (b, v) => some ⟨b && decide (0 ≤ i ∧ i < len), v, H⟩
    | none => none
  | _, _ => none

def ixStr (a i : AV) (H : Hp) : Option Res :=
  match a, i with
  | .c (.p (.str s)), .c (.p (.int _ i)) => match s[i.toNat]? with
    | some b => some ⟨decide (0 ≤ i), .c (.p (.int .u8 b.toNat)), H⟩
    | none => none
  | _, _ => none

def bound (d : Nat) : Option AV → Option (Bool × Nat)
  | none => some (true, d)
  | some (.c (.p (.int _ i))) => some (decide (0 ≤ i), i.toNat)
  | _ => none

def slStr (a : AV) (lo hi : Option AV) (H : Hp) : Option Res :=
  match a with
  | .c (.p (.str s)) => match bound 0 lo, bound s.length hi with
    | some (p, l), some (q, h) => some ⟨p && q && decide (l ≤ h ∧ h ≤ s.length), .c (.p (.str ((s.take h).drop l))), H⟩
    | _, _ => none
  | _ => none

def frz (H : Hp) : C → Option Hp
  | .os id _ => match H.get id with
    | some (.arr sz _ es) => some (H.set id (.arr sz true es))
    | _ => none
  | _ => some H

def slSl (sz : Nat) (a : AV) (lo hi mx : Option AV) (H : Hp) : Option Res :=
  match a with
  | .c c => match elemsA H c, frz H c with
    | some (b, es), some H' => match bound 0 lo, bound es.length hi, mx with
      | some (p, l), some (q, h), none => some ⟨b && p && q && decide (l ≤ h ∧ h ≤ es.length) && es.all (fun r => r.length == sz), .c (.p (.sl ((es.take h).drop l))), H'⟩
      | some (p, l), some (q, h), some (.c (.p (.int _ m))) => some ⟨b && p && q && decide (l ≤ h ∧ h ≤ es.length ∧ m = h) && es.all (fun r => r.length == sz), .c (.ti ((es.take h).drop l)), H'⟩
      | _, _, _ => none
    | _, _ => none
  | _ => none

/-- The literal of a struct or an array: each part at its place over the zero value. -/
def fillS : List (Nat × Nat × AV) → List C → Option (Bool × List C)
  | [], cs => some (true, cs)
  | (o, n, v) :: r, cs => match cellsA v with
    | some us => match fillS r (putAt cs o us) with
      | some (b, out) => some (b && decide (us.length = n ∧ o + us.length ≤ cs.length), out)
      | none => none
    | none => none

def pureA : AV → Option (List PV)
  | .c (.p v) => some [v]
  | .agg cs => some cs
  | _ => none

def freezeC (H : Hp) : C → Option (Bool × C × Hp)
  | .os id n => match H.get id with
    | some (.arr sz _ es) => some (decide (n = es.length), .p (.sl es), H.set id (.arr sz true es))
    | _ => none
  | .nils => some (true, .p (.sl []), H)
  | .ti es => some (true, .p (.sl es), H)
  | .fn g [] => some (true, .p (.fn g []), H)
  | c => some (true, c, H)

def freezeCs (H : Hp) : List C → Option (Bool × List C × Hp)
  | [] => some (true, [], H)
  | c :: r => match freezeC H c with
    | some (b, c, H) => match freezeCs H r with
      | some (b', r, H) => some (b && b', c :: r, H)
      | none => none
    | none => none

def freezeA (H : Hp) : AV → Option (Bool × AV × Hp)
  | .c c => match freezeC H c with
    | some (b, c, H) => some (b, .c c, H)
    | none => none
  | .agg cs => some (true, .agg cs, H)
  | .mg cs => match freezeCs H cs with
    | some (b, cs, H) => some (b, mkAgg cs, H)
    | none => none
  | _ => none

def freezeAs (H : Hp) : List AV → Option (Bool × List AV × Hp)
  | [] => some (true, [], H)
  | c :: r => match freezeA H c with
    | some (b, c, H) => match freezeAs H r with
      | some (b', r, H) => some (b && b', c :: r, H)
      | none => none
    | none => none

/-- The elements of a slice's literal, in order, all given. -/
def litS (n : Nat) : Hp → List AV → Option (Bool × List (List PV) × Hp)
  | H, [] => some (true, [], H)
  | H, v :: r => match freezeA H v with
    | some (b, v, H) => match pureA v, litS n H r with
      | some cs, some (b', l, H) => some (b && b' && decide (cs.length = n), cs :: l, H)
      | _, _ => none
    | none => none

/-- Pointers, as cells of a block. -/
def ptrs1 : List AV → Option (List C)
  | [] => some []
  | .c .nilp :: r => match ptrs1 r with
    | some l => some (.nilp :: l)
    | none => none
  | .c (.ptr id o) :: r => match ptrs1 r with
    | some l => some (.ptr id o :: l)
    | none => none
  | _ => none
def litP (n : Nat) (H : Hp) (vs : List AV) : Option Res :=
  match Nat.beq n 1, ptrs1 vs with
  | true, some cs => some ⟨true, .c (.ms H.nid cs.length), H.add (.mrow cs)⟩
  | _, _ => none

def mkSl (sz bytes : Nat) (zs : List PV) (l c : AV) (H : Hp) : Option Res :=
  match l, c with
  | .c (.p (.int _ l)), .c (.p (.int _ c)) =>
    some ⟨decide (0 ≤ l ∧ l ≤ c ∧ c < 2 ^ 63 ∧ bytes * c ≤ 2 ^ 47), .c (.os H.nid l.toNat), H.add (.arr sz false (List.replicate l.toNat zs))⟩
  | _, _ => none

def srcA (str : Bool) (H : Hp) (a : AV) : Option (Bool × List (List PV)) :=
  match str, a with
  | true, .c (.p (.str s)) => some (true, bytesOf s)
  | false, .c c => elemsA H c
  | _, _ => none

def appS (sz bytes : Nat) (str : Bool) (a b : AV) (H : Hp) : Option Res :=
  match srcA str H b, a with
  | some (pb, new), .c .nils => some ⟨pb && decide (new.length * bytes ≤ 2 ^ 47 ∧ new.length < 2 ^ 62) && new.all (fun r => r.length == sz), .c (.os H.nid new.length), H.add (.arr sz false new)⟩
  | some (pb, new), .c (.ti []) => some ⟨pb && decide (new.length * bytes ≤ 2 ^ 47 ∧ new.length < 2 ^ 62) && new.all (fun r => r.length == sz), .c (.os H.nid new.length), H.add (.arr sz false new)⟩
  | some (pb, []), .c (.ti (e :: es)) => some ⟨pb, .c (.ti (e :: es)), H⟩
  | some (pb, new), .c (.ti es) => some ⟨pb && decide ((es.length + new.length) * bytes ≤ 2 ^ 47 ∧ es.length + new.length < 2 ^ 62 ∧ 0 < new.length) && es.all (fun r => r.length == sz) && new.all (fun r => r.length == sz),
      .c (.os H.nid (es.length + new.length)), H.add (.arr sz false (es ++ new))⟩
  | some (pb, new), .c (.os id n) => match H.get id with
    | some (.arr sz' fz es) => some ⟨pb && decide (n = es.length ∧ sz' = sz ∧ (n + new.length) * bytes ≤ 2 ^ 47 ∧ n + new.length < 2 ^ 62) && new.all (fun r => r.length == sz),
        .c (.os id (n + new.length)), H.set id (.arr sz fz (es ++ new))⟩
    | _ => none
  | _, _ => none

def lenS (str : Bool) (a : AV) (H : Hp) : Option Res :=
  match str, a with
  | true, .c (.p (.str s)) => some ⟨true, .c (.p (.int .i64 s.length)), H⟩
  | false, .c (.ms _ n) => some ⟨true, .c (.p (.int .i64 n)), H⟩
  | false, .c c => match elemsA H c with
    | some (b, es) => some ⟨b, .c (.p (.int .i64 es.length)), H⟩
    | none => none
  | _, _ => none

def max2A : AV → AV → Option AV
  | .c (.p (.int k a)), .c (.p (.int _ b)) => some (.c (.p (.int k (if b > a then b else a))))
  | _, _ => none
def min2A : AV → AV → Option AV
  | .c (.p (.int k a)), .c (.p (.int _ b)) => some (.c (.p (.int k (if b < a then b else a))))
  | _, _ => none

/-- The values that a method is bound to. -/
def bndL : List AV → Option (List (Bool × List PV))
  | [] => some []
  | .c (.p v) :: r => match bndL r with
    | some l => some ((false, [v]) :: l)
    | none => none
  | .agg cs :: r => match bndL r with
    | some l => some ((true, cs) :: l)
    | none => none
  | _ => none
def bndA (f : Bool × List PV) : AV := match f.1, f.2 with
  | true, cs => .agg cs
  | false, v :: _ => .c (.p v)
  | false, [] => .un
def bndS (g : FuncId) (vs : List AV) (H : Hp) : Option Res :=
  match vs with
  | [.c (.ptr id o)] => ret (.c (.bp g id o)) H
  | vs => match bndL vs with
    | some l => ret (.c (.p (.fn g l))) H
    | none => none

/-- An operation, its tables looked up. -/
inductive SOp where
  | move (a : SA)
  | pick (c a b : SA)
  | alloc (b : Blk)
  | box (a : SA)
  | build (z : List C) (ps : List (Nat × Nat × SA))
  | lit (n : Nat) (ps : List SA)
  | load (agg : Bool) (n : Nat) (a : SA)
  | store (n : Nat) (a v : SA)
  | chk (a : SA)
  | bin (op : BinOp) (a b : SA)
  | sh (op : BinOp) (a b : SA)
  | eq (pos : Bool) (n : EK) (a b : SA)
  | isnil (pos : Bool) (a : SA)
  | un (op : UnOp) (a : SA)
  | cInt (k : IntKind) (a : SA)
  | cStr (a : SA)
  | cBytes (a : SA)
  | cString (a : SA)
  | fn (g : FuncId) (caps : List SA)
  | bnd (g : FuncId) (ps : List SA)
  | bad
  | mkSl (sz bytes : Nat) (zs : List PV) (l c : SA)
  | slStr (a : SA) (lo hi : Option SA)
  | slSl (sz : Nat) (a : SA) (lo hi mx : Option SA)
  | fld (off : Nat) (a : SA)
  | fldv (off : Nat) (agg : Bool) (n : Nat) (a : SA)
  | ixArr (len n : Nat) (a i : SA)
  | ixSl (n : Nat) (a i : SA)
  | ixAgg (len : Nat) (agg : Bool) (n : Nat) (a i : SA)
  | ixStr (a i : SA)
  | ext (a : SA) (i : Nat)
  | app (sz bytes : Nat) (str : Bool) (a b : SA)
  | len (str : Bool) (a : SA)
  | lenArr (n : Nat)
  | max (a b : SA)
  | min (a b : SA)
  | call (pure : Bool) (f : SA) (args : List SA)
  deriving Inhabited

def capsA : List AV → Option (List Id)
  | [] => some []
  | .c (.ptr i 0) :: r => match capsA r with
    | some l => some (i :: l)
    | none => none
  | _ => none

def bytesS (H : Hp) (c : C) : Option (Bool × List UInt8) :=
  match elemsA H c with
  | some (b, es) => match unbytes es with
    | some l => some (b, l)
    | none => none
  | none => none

/-- What an operation (no call) gives. -/
def opS (G : Gl) (o : SOp) (T : Tm) (H : Hp) : Option Res :=
  match o with
  | .move a => ret (evS G T a) H
  | .pick c a b => match evS G T c with
    | .c (.p (.bool t)) => ret (match t with | true => evS G T a | false => evS G T b) H
    | _ => none
  | .alloc b => ret (.c (.ptr H.nid 0)) (H.add b)
  | .box a => match mkRow (evS G T a) with
    | some b => ret (.c (.ptr H.nid 0)) (H.add b)
    | none => none
  | .build z ps => match fillS (ps.map fun q => (q.1, q.2.1, evS G T q.2.2)) z with
    | some (b, cs) => some ⟨b, mkAgg cs, H⟩
    | none => none
  | .lit n ps => match litS n H (ps.map (evS G T)) with
    | some (b, es, H) => some ⟨b, .c (.ti es), H⟩
    | none => litP n H (ps.map (evS G T))
  | .load agg n a => loadS agg n (evS G T a) H
  | .store n a v => storeS n (evS G T a) (evS G T v) H
  | .chk a => match evS G T a with
    | .c (.ptr id o) => ret (.c (.ptr id o)) H
    | .c (.rp cs) => ret (.c (.rp cs)) H
    | .c (.ap id n i o) => ret (.c (.ap id n i o)) H
    | .c (.fn g cs) => ret (.c (.fn g cs)) H
    | .c (.p (.fn g l)) => ret (.c (.p (.fn g l))) H
    | _ => none
  | .bin op a b => resOf H (binS op (evS G T a) (evS G T b))
  | .sh op a b => resOf H (shS op (evS G T a) (evS G T b))
  | .eq pos n a b => match eqS n (evS G T a) (evS G T b) with
    | some (p, r) => some ⟨p, .c (.p (.bool (match pos with | true => r | false => !r))), H⟩
    | none => none
  | .un op a => match unS op (evS G T a) with
    | some v => ret v H
    | none => none
  | .cInt k a => match evS G T a with
    | .c (.p (.int _ n)) => ret (.c (.p (.int k (k.wrap n)))) H
    | _ => none
  | .cStr a => match evS G T a with
    | .c (.p (.str s)) => ret (.c (.p (.str s))) H
    | _ => none
  | .cBytes a => match evS G T a with
    | .c (.p (.str s)) => ret (.c (.p (.sl (bytesOf s)))) H
    | _ => none
  | .cString a => match evS G T a with
    | .c c => match bytesS H c with
      | some (b, l) => some ⟨b, .c (.p (.str l)), H⟩
      | none => none
    | _ => none
  | .fn g caps => match capsA (caps.map (evS G T)) with
    | some l => ret (.c (.fn g l)) H
    | none => none
  | .bnd g ps => bndS g (ps.map (evS G T)) H
  | .bad => none
  | .mkSl sz bytes zs l c => mkSl sz bytes zs (evS G T l) (evS G T c) H
  | .slStr a lo hi => slStr (evS G T a) (lo.map (evS G T)) (hi.map (evS G T)) H
  | .slSl sz a lo hi mx => slSl sz (evS G T a) (lo.map (evS G T)) (hi.map (evS G T)) (mx.map (evS G T)) H
  | .fld off a => fieldAddrS off (evS G T a) H
  | .fldv off agg n a => fieldS off agg n (evS G T a) H
  | .ixArr len n a i => ixArr len n (evS G T a) (evS G T i) H
  | .ixSl n a i => ixSl n (evS G T a) (evS G T i) H
  | .ixAgg len agg n a i => ixAgg len agg n (evS G T a) (evS G T i) H
  | .ixStr a i => ixStr (evS G T a) (evS G T i) H
  | .ext a i => match evS G T a with
    | .tup vs => match vs[i]? with
      | some v => ret v H
      | none => none
    | _ => none
  | .app sz bytes str a b => appS sz bytes str (evS G T a) (evS G T b) H
  | .len str a => lenS str (evS G T a) H
  | .lenArr n => ret (.c (.p (.int .i64 n))) H
  | .isnil .. => none
  | .max a b => match max2A (evS G T a) (evS G T b) with
    | some v => ret v H
    | none => none
  | .min a b => match min2A (evS G T a) (evS G T b) with
    | some v => ret v H
    | none => none
  | .call .. => none

/-! ### Looking the tables up -/

def compAs : List Operand → Option (List SA)
  | [] => some []
  | a :: r => match compA a, compAs r with
    | some x, some l => some (x :: l)
    | _, _ => none

def compO : Option Operand → Option (Option SA)
  | none => some none
  | some a => match compA a with
    | some x => some (some x)
    | none => none

def zeroCs (P : Program) (t : TypeId) : Option (List C) :=
  match P.info? t with
  | some i => match i.zero with
    | some z => constCs z.cells.toList
    | none => none
  | none => none

def fieldOf (P : Program) (t : TypeId) (f : Nat) : Option (Nat × Bool × Nat) :=
  match P.underlying t with
  | some (.struct fs) => match fs[f]? with
    | some fd => match shapeT P fd.type with
      | some (a, n) => some (fd.offset, a, n)
      | none => none
    | none => none
  | _ => none

def fieldPlaces (P : Program) : List Field → Option (List (Nat × Nat))
  | [] => some []
  | f :: r => match P.info? f.type, fieldPlaces P r with
    | some j, some l => some ((f.offset, j.size) :: l)
    | _, _ => none

def compParts (place : Nat → Option (Nat × Nat)) : List (Nat × Operand) → Option (List (Nat × Nat × SA))
  | [] => some []
  | (i, a) :: r => match place i, compA a, compParts place r with
    | some (o, n), some x, some l => some ((o, n, x) :: l)
    | _, _, _ => none

def compBuild (P : Program) (t : TypeId) (ps : List (Nat × Operand)) : Option SOp :=
  match zeroCs P t, P.underlying t with
  | some z, some (.struct fs) => match fieldPlaces P fs.toList with
    | some pl => match compParts (fun i => pl[i]?) ps with
      | some l => some (.build z l)
      | none => none
    | none => none
  | some z, some (.array _ e) => match P.info? e with
    | some j => match compParts (fun i => some (i * j.size, j.size)) ps with
      | some l => some (.build z l)
      | none => none
    | none => none
  | _, _ => none

/-- The elements of a slice's literal: all of them, in order. -/
def compLit : Nat → List (Nat × Operand) → Option (List SA)
  | _, [] => some []
  | i, (j, a) :: r => match i == j, compA a, compLit (i + 1) r with
    | true, some x, some l => some (x :: l)
    | _, _, _ => none

/-- Where a literal's elements begin; what lies ahead of them is zero. -/
def litK : List (Nat × Operand) → Nat
  | (k, _) :: _ => k
  | [] => 0
def litZ (z : List C) : Nat → Option (List SA)
  | 0 => some []
  | k + 1 => match pureZ z with
    | some zs => some (List.replicate (k + 1) (.v (.agg zs)))
    | none => none

def refFree (P : Program) : Nat → TypeId → Bool
  | 0, _ => false
  | d + 1, t => match P.underlying t with
    | some .bool | some (.int _) | some .string => true
    | some (.slice e) => refFree P d e
    | some (.array _ e) => refFree P d e
    | some (.struct fs) => fs.toList.all fun f => refFree P d f.type
    | _ => false

def pureFn (P : Program) (g : FuncId) : Bool :=
  match P.funcs[g]? with
  | some fn => fn.body.isSome && fn.params.toList.all (refFree P 12) && fn.resultTypes.toList.all (refFree P 12) && fn.nfree == 0
  | none => false

def compCall (P : Program) (b : Builtin) (ts : List TypeId) (args : List Operand) : Option SOp :=
  match b, ts, args with
  | .append, t :: u :: _, [a, c] => match P.underlying t, P.underlying u, compA a, compA c with
    | some (.slice e), some (.slice _), some x, some y => match P.info? e, zeroCs P e with
      | some i, some z => match decide (0 < i.size ∧ z.length = i.size) with
        | true => some (.app i.size i.bytes false x y)
        | false => none
      | _, _ => none
    | some (.slice e), some .string, some x, some y => match P.info? e, zeroCs P e with
      | some i, some z => match decide (i.size = 1 ∧ z.length = i.size) with
        | true => some (.app i.size i.bytes true x y)
        | false => none
      | _, _ => none
    | _, _, _, _ => none
  | .len, t :: _, [a] => match P.underlying t, compA a with
    | some (.slice _), some x => some (.len false x)
    | some .string, some x => some (.len true x)
    | some (.array n _), some _ => some (.lenArr n)
    | _, _ => none
  | .max, _, [a, c] => match compA a, compA c with
    | some x, some y => some (.max x y)
    | _, _ => none
  | .min, _, [a, c] => match compA a, compA c with
    | some x, some y => some (.min x y)
    | _, _ => none
  | _, _, _ => none

def compNil (pos : Bool) (x y : SA) : Option SOp :=
  match y with
  | .v (.c .nils) => some (.isnil pos x)
  | _ => none

def compBin (P : Program) (op : BinOp) (t : TypeId) (x y : SA) : Option SOp :=
  match op with
  | .shl | .shr => some (.sh op x y)
  | .eql | .neq => match P.underlying t with
    | some (.int _) => some (.eq (op == .eql) .int x y)
    | some .bool => some (.eq (op == .eql) .bool x y)
    | some .string => some (.eq (op == .eql) .str x y)
    | some (.pointer _) => some (.eq (op == .eql) .ptr x y)
    | some (.slice _) => compNil (op == .eql) x y
    | some (.struct _) | some (.array _ _) => match P.eqGuardType P.depth t, kindsT P 20 t with
      | false, some ks => some (.eq (op == .eql) (.agg ks) x y)
      | _, _ => none
    | _ => none
  | _ => some (.bin op x y)

def compConv (P : Program) (s d : TypeId) (x : SA) : Option SOp :=
  match P.underlying s, P.underlying d with
  | some (.int _), some (.int k) => some (.cInt k x)
  | some .string, some .string => some (.cStr x)
  | some .string, some (.slice e) => match P.underlying e with
    | some (.int .u8) => match P.info? e with
      | some i => match decide (i.size = 1) with
        | true => some (.cBytes x)
        | false => none
      | none => none
    | _ => none
  | some (.slice e), some .string => match P.underlying e with
    | some (.int .u8) => some (.cString x)
    | _ => none
  | _, _ => none

def compOp (P : Program) (o : Op) : Option SOp :=
  match o with
  | .move a | .assign a => match compA a with
    | some x => some (.move x)
    | none => none
  | .pick c a b => match compA c, compA a, compA b with
    | some z, some x, some y => some (.pick z x y)
    | _, _, _ => none
  | .alloc t => match zeroCs P t with
    | some cs => match mkRow (mkAgg cs) with
      | some b => some (.alloc b)
      | none => none
    | none => none
  | .box _ v => match compA v with
    | some x => some (.box x)
    | none => none
  | .build t ps => compBuild P t ps.toList
  | .buildSlice t n ps => match P.underlying t with
    | some (.slice e) => match P.info? e, zeroCs P e, compLit (litK ps.toList) ps.toList with
      | some i, some z, some l => match litZ z (litK ps.toList) with
        | some pre => match decide (0 < i.size ∧ (pre ++ l).length = n ∧ n * i.size ≤ 2 ^ 24 ∧ z.length = i.size) with
          | true => some (.lit i.size (pre ++ l))
          | false => none
        | none => none
      | _, _, _ => none
    | _ => none
  | .load t a => match shapeT P t, compA a with
    | some (agg, n), some x => some (.load agg n x)
    | _, _ => none
  | .store t a v => match shapeT P t, compA a, compA v with
    | some (_, n), some x, some y => some (.store n x y)
    | _, _, _ => none
  | .nilCheck a => match compA a with
    | some x => some (.chk x)
    | none => none
  | .binOp op t a b _ => match compA a, compA b with
    | some x, some y => compBin P op t x y
    | _, _ => none
  | .unOp op _ a => match compA a with
    | some x => some (.un op x)
    | none => none
  | .convert s d a => match compA a with
    | some x => compConv P s d x
    | none => none
  | .makeFunc (.func g) first caps => match first.toList, compAs caps.toList with
    | [], some l => some (.fn g l)
    | f, some [] => match compAs f with
      | some l => some (.bnd g l)
      | none => none
    | _, _ => none
  | .makeSlice t l c => match P.underlying t with
    | some (.slice e) => match P.info? e, zeroCs P e, compA l, compA c with
      | some i, some z, some x, some y => match pureZ z, decide (0 < i.size ∧ z.length = i.size) with
        | some zs, true => some (.mkSl i.size i.bytes zs x y)
        | _, _ => none
      | _, _, _, _ => none
    | _ => none
  | .slice t a lo hi mx => match P.underlying t, compA a, compO lo, compO hi, compO mx with
    | some .string, some x, some l, some h, some none => some (.slStr x l h)
    | some (.slice e), some x, some l, some h, some m => match m.isSome && h.isNone, P.info? e with
      | false, some i => some (.slSl i.size x l h m)
      | _, _ => none
    | _, _, _, _, _ => none
  | .fieldAddr t a f => match fieldOf P t f, compA a with
    | some (off, _, n), some x => match decide (0 < n) with
      | true => some (.fld off x)
      | false => none
    | _, _ => none
  | .field t a f => match fieldOf P t f, compA a with
    | some (off, agg, n), some x => some (.fldv off agg n x)
    | _, _ => none
  | .indexAddr t a i => match P.underlying t, compA a, compA i with
    | some (.array len e), some x, some y => match P.info? e with
      | some j => some (.ixArr len j.size x y)
      | none => none
    | some (.slice e), some x, some y => match P.info? e with
      | some j => match decide (0 < j.size) with
        | true => some (.ixSl j.size x y)
        | false => none
      | none => none
    | _, _, _ => none
  | .index t a i => match P.underlying t, compA a, compA i with
    | some (.array len e), some x, some y => match shapeT P e with
      | some (agg, n) => some (.ixAgg len agg n x y)
      | none => none
    | some .string, some x, some y => some (.ixStr x y)
    | _, _, _ => none
  | .extract a i => match compA a with
    | some x => some (.ext x i)
    | none => none
  | .call { callee := .builtin b, args, argTypes } => compCall P b argTypes.toList args.toList
  | .call { callee := .value f, args, .. } => match compA f, compAs args.toList with
    | some x, some l => some (.call (match x with | .v (.c (.fn g [])) => pureFn P g | _ => false) x l)
    | _, _ => none
  | _ => none

structure SO where
  dst : Option Nat
  op : SOp
  guard : Option (Nat × Bool)
  deriving Inhabited

inductive SC where
  | skip
  | reg (d : Bool) (ops : List SO)
  | seq (a b : SC)
  | cond (c : SA) (t e : SC)
  | block (id : Nat) (b : SC)
  | loop (b : SC)
  | rf (f : SA) (ps : List Nat) (a b : SC)
  | exit (id : Nat)
  | ret
  | dr (an : List Nat) (ops : List SO)
  deriving Inhabited

/-- Operations that write nothing abstract. -/
def SOp.ro : SOp → Bool
  | .alloc _ | .box _ | .lit .. | .store .. | .mkSl .. | .slSl .. | .app .. => false
  | .call p .. => p
  | _ => true

/-- What stands before each operation, by its edges: a set of numbers each. -/
def ancs : List Nat → List Oper → List Nat
  | acc, [] => acc
  | acc, o :: r => ancs (acc ++ [(o.after.toList.filter (Region.binds .any)).foldl (fun s e => s ||| 2 ^ e.on ||| acc.getD e.on 0) 0]) r

def looksA : SA → List Nat
  | .t t => [t]
  | _ => []

def looksM : Option SA → List Nat
  | some (.t t) => [t]
  | _ => []

def looksO : SOp → List Nat
  | .move a | .box a | .load _ _ a | .chk a | .un _ a | .cInt _ a | .cStr a | .cBytes a | .cString a | .fld _ a | .fldv _ _ _ a | .ext a _ | .len _ a | .isnil _ a => looksA a
  | .pick c a b => looksA c ++ looksA a ++ looksA b
  | .alloc _ | .lenArr _ | .bad => []
  | .build _ ps => ps.flatMap fun q => looksA q.2.2
  | .lit _ ps | .fn _ ps | .bnd _ ps => ps.flatMap looksA
  | .store _ a b | .bin _ a b | .sh _ a b | .eq _ _ a b | .mkSl _ _ _ a b | .ixArr _ _ a b | .ixSl _ a b | .ixAgg _ _ _ a b | .ixStr a b | .app _ _ _ a b | .max a b | .min a b => looksA a ++ looksA b
  | .slStr a l h => looksA a ++ looksM l ++ looksM h
  | .slSl _ a l h m => looksA a ++ looksM l ++ looksM h ++ looksM m
  | .call _ f args => looksA f ++ args.flatMap looksA

def SO.looks (o : SO) : List Nat := looksO o.op ++ (match o.guard with | some (t, _) => [t] | none => [])

def apartS (x y : SO) : Bool :=
  (match x.dst with
   | some d => !y.looks.contains d && y.dst != some d
   | none => true) &&
  (match y.dst with
   | some d => !x.looks.contains d
   | none => true)

def compG (ops : List Oper) : Option (Nat × Bool) → Option (Option (Nat × Bool))
  | none => some none
  | some (j, b) => match ops[j]? with
    | some o => match o.dst with
      | some t => some (some (t, b))
      | none => none
    | none => none

/-- What the evaluator does not take is never come to. -/
def compB (P : Program) (o : Op) : SOp := match compOp P o with
  | some s => s
  | none => .bad

def compOps (P : Program) (n : Nat) (all : List Oper) : List Oper → Option (List SO)
  | [] => some []
  | o :: r => match some (compB P o.op), compG all o.guard, compOps P n all r, (match o.dst with | some d => decide (d < n) | none => true) with
    | some s, some g, some l, true => some (⟨o.dst, s, g⟩ :: l)
    | _, _, _, _ => none

/-- In a region whose order is open: two operations that no edge orders only read, and neither names what the other one gives. -/
def drawOK (ops : List Oper) (ss : List SO) : Bool :=
  let an := ancs [] ops
  (List.range ops.length).all fun j => match ops[j]?, ss[j]?, an[j]? with
    | some oj, some sj, some before =>
      oj.after.toList.all (fun e => !Region.binds .any e || decide (e.on < j)) &&
      (List.range j).all fun i => before.testBit i || (match ss[i]? with
        | some si => si.op.ro && sj.op.ro && apartS si sj
        | none => false)
    | _, _, _ => false

/-- The same, where some write: what they touch is looked at later. -/
def drawM (ops : List Oper) (ss : List SO) : Bool :=
  let an := ancs [] ops
  (List.range ops.length).all fun j => match ops[j]?, ss[j]?, an[j]? with
    | some oj, some sj, some before =>
      oj.after.toList.all (fun e => !Region.binds .any e || decide (e.on < j)) &&
      (List.range j).all fun i => before.testBit i || (match ss[i]? with
        | some si => apartS si sj
        | none => false)
    | _, _, _ => false

def compC (P : Program) (n : Nat) : Code → Option SC
  | .skip => some .skip
  | .label _ => some .skip
  | .region _ ops draw => match compOps P n ops.toList ops.toList with
    | some l => match !draw || drawOK ops.toList l with
      | true => some (.reg draw l)
      | false => match drawM ops.toList l with
        | true => some (.dr (ancs [] ops.toList) l)
        | false => none
    | none => none
  | .seq a b => match compC P n a, compC P n b with
    | some x, some y => some (.seq x y)
    | _, _ => none
  | .cond c t e => match compA c, compC P n t, compC P n e with
    | some z, some x, some y => some (.cond z x y)
    | _, _, _ => none
  | .block id b => match compC P n b with
    | some x => some (.block id x)
    | none => none
  | .loop b => match compC P n b with
    | some x => some (.loop x)
    | none => none
  | .rangeFunc f ps a b => match compA f, compC P n a, compC P n b, ps.toList.all (fun p => decide (p < n)) with
    | some z, some x, some y, true => some (.rf z ps.toList x y)
    | _, _, _, _ => none
  | .exit id => some (.exit id)
  | .ret => some .ret
  | .scope b => compC P n b
  | .goto _ => none
  | .refuse _ => none

inductive SR where
  | t (t : Nat)
  | cell (a : Nat) (agg : Bool) (n : Nat)
  deriving Inhabited

structure SF where
  np : Nat
  nt : Nat
  res : List SR
  body : SC
  deriving Inhabited

def compR (P : Program) : List ResultVar → Option (List SR)
  | [] => some []
  | .tmp t :: r => match compR P r with
    | some l => some (.t t :: l)
    | none => none
  | .cell a t :: r => match shapeT P t, compR P r with
    | some (agg, n), some l => some (.cell a agg n :: l)
    | _, _ => none

def compF (P : Program) (f : FuncId) : Option SF :=
  match P.funcs[f]? with
  | some fn => match fn.body with
    | some c => match compC P fn.ntmps c, compR P fn.results.toList, decide (fn.params.size + fn.nfree ≤ fn.ntmps) && !(fn.name == "runtime.NumGoroutine") with
      | some s, some r, true => some ⟨fn.params.size + fn.nfree, fn.ntmps, r, s⟩
      | _, _, _ => none
    | none => none
  | none => none
end Go.Ab

namespace Go.Ab
open Go

inductive F2 {α β : Type} (R : α → β → Prop) : List α → List β → Prop
  | nil : F2 R [] []
  | cons {a : α} {b : β} {as : List α} {bs : List β} (h : R a b) (t : F2 R as bs) : F2 R (a :: as) (b :: bs)

namespace F2
variable {α β : Type} {R S : α → β → Prop}
theorem imp {as : List α} {bs : List β} (h : F2 R as bs) (i : ∀ a b, R a b → S a b) : F2 S as bs := by
  induction h with
  | nil => exact .nil
  | cons h _ ih => exact .cons (i _ _ h) ih
theorem len {as : List α} {bs : List β} (h : F2 R as bs) : as.length = bs.length := by
  induction h with
  | nil => rfl
  | cons _ _ ih => simp [ih]
theorem get {as : List α} {bs : List β} (h : F2 R as bs) : ∀ {i : Nat} {a : α}, as[i]? = some a → ∃ b, bs[i]? = some b ∧ R a b := by
  induction h with
  | nil => intro i a h; simp at h
  | cons h _ ih =>
    intro i a hi
    cases i with
    | zero => simp at hi; subst hi; exact ⟨_, rfl, h⟩
    | succ i => simp at hi; obtain ⟨b, hb, hr⟩ := ih hi; exact ⟨b, by simpa using hb, hr⟩
theorem of_get {as : List α} {bs : List β} (hl : as.length = bs.length) (h : ∀ (i : Nat) (a : α) (b : β), as[i]? = some a → bs[i]? = some b → R a b) : F2 R as bs := by
  induction as generalizing bs with
  | nil => cases bs with
    | nil => exact .nil
    | cons b bs => simp at hl
  | cons a as ih => cases bs with
    | nil => simp at hl
    | cons b bs => exact .cons (h 0 a b rfl rfl) (ih (by simpa using hl) fun i x y hx hy => h (i + 1) x y (by simpa using hx) (by simpa using hy))
theorem app {as as' : List α} {bs bs' : List β} (h : F2 R as bs) (k : F2 R as' bs') : F2 R (as ++ as') (bs ++ bs') := by
  induction h with
  | nil => exact k
  | cons h _ ih => exact .cons h ih
theorem take {as : List α} {bs : List β} (h : F2 R as bs) (n : Nat) : F2 R (as.take n) (bs.take n) := by
  induction h generalizing n with
  | nil => simpa using .nil
  | cons h _ ih => cases n with
    | zero => exact .nil
    | succ n => exact .cons h (ih n)
theorem drop {as : List α} {bs : List β} (h : F2 R as bs) (n : Nat) : F2 R (as.drop n) (bs.drop n) := by
  induction h generalizing n with
  | nil => simpa using .nil
  | cons h t ih => cases n with
    | zero => exact .cons h t
    | succ n => exact ih n
theorem mapl {γ : Type} {f : γ → α} {as : List γ} {bs : List β} : F2 R (as.map f) bs ↔ F2 (fun a b => R (f a) b) as bs := by
  constructor
  · intro h
    induction as generalizing bs with
    | nil => cases h; exact .nil
    | cons a as ih => cases h with | cons h t => exact .cons h (ih t)
  · intro h
    induction h with
    | nil => exact .nil
    | cons h _ ih => exact .cons h ih
end F2

/-- Cells that will never be written. -/
abbrev Cl := Nat → Nat → Prop

/-- What a function value has taken, as the model holds it. -/
def bndV : List (Bool × List PV) → List (List Value) → List Value
  | (b, _) :: r, v :: s => (match b with | true => .agg v.toArray | false => v.headD undef) :: bndV r s
  | _, _ => []

inductive Rp (F : Cl) (w : World) : PV → Value → Prop
  | int (k : IntKind) (n : Int) : Rp F w (.int k n) (.int k n)
  | bool (b : Bool) : Rp F w (.bool b) (.bool b)
  | str (s : ByteArray) : Rp F w (.str s.data.toList) (.string s)
  | sl0 (a : Option Addr) (cap : Nat) : Rp F w (.sl []) (.slice a 0 cap)
  | sl (es : List (List PV)) (b o cap sz : Nat) (hcap : es.length ≤ cap) (hsz : 0 < sz) (hrow : ∀ (i : Nat) (r : List PV), es[i]? = some r → r.length = sz)
      (hF : ∀ i j, i < es.length → j < sz → F b (o + i * sz + j) ∧ (w.cell? ⟨b, o + i * sz + j, none⟩).isSome)
      (hR : ∀ (i : Nat) (r : List PV) (j : Nat) (c : PV), es[i]? = some r → r[j]? = some c → Rp F w c ((w.cell? ⟨b, o + i * sz + j, none⟩).getD undef)) :
      Rp F w (.sl es) (.slice (some ⟨b, o, none⟩) es.length cap)
  | fn (g : Nat) (first : List (Bool × List PV)) (vs : List (List Value)) (hl : vs.length = first.length)
      (hn : ∀ (i : Nat) (f : Bool × List PV) (v : List Value), first[i]? = some f → vs[i]? = some v → v.length = f.2.length ∧ (f.1 = false → f.2.length = 1))
      (hR : ∀ (i : Nat) (f : Bool × List PV) (v : List Value) (j : Nat) (c : PV) (x : Value), first[i]? = some f → vs[i]? = some v → f.2[j]? = some c → v[j]? = some x → Rp F w c x) :
      Rp F w (.fn g first) (.func (.func g) (bndV first vs).toArray #[])
  | nilf : Rp F w .nilf .nilFunc

/-- Cells from an address on. -/
def At (F : Cl) (w : World) (b o : Nat) (cs : List PV) : Prop :=
  ∀ (j : Nat) (c : PV), cs[j]? = some c → F b (o + j) ∧ ∃ v, w.cell? ⟨b, o + j, none⟩ = some v ∧ Rp F w c v

/-- A slice's elements in frozen memory. -/
def SlAt (F : Cl) (w : World) (es : List (List PV)) (a : Option Addr) : Prop :=
  es = [] ∨ ∃ b o sz, a = some ⟨b, o, none⟩ ∧ 0 < sz ∧ (∀ (i : Nat) (r : List PV), es[i]? = some r → r.length = sz ∧ At F w b (o + i * sz) r)

/-- Memory goes on: what is frozen stays. -/
structure Keeps (F F' : Cl) (w w' : World) : Prop where
  mono : ∀ b o, F b o → F' b o
  froz : ∀ b o, F b o → w'.cell? ⟨b, o, none⟩ = w.cell? ⟨b, o, none⟩

theorem Keeps.refl (F : Cl) (w : World) : Keeps F F w w := ⟨fun _ _ h => h, fun _ _ _ => rfl⟩
theorem Keeps.trans {F F' F'' : Cl} {w w' w'' : World} (h : Keeps F F' w w') (k : Keeps F' F'' w' w'') : Keeps F F'' w w'' :=
  ⟨fun b o f => k.mono b o (h.mono b o f), fun b o f => (k.froz b o (h.mono b o f)).trans (h.froz b o f)⟩

theorem Rp.keeps {F F' : Cl} {w w' : World} (h : Keeps F F' w w') {p : PV} {v : Value} (r : Rp F w p v) : Rp F' w' p v := by
  induction r with
  | int k n => exact .int k n
  | bool b => exact .bool b
  | str s => exact .str s
  | sl0 a cap => exact .sl0 a cap
  | sl es b o cap sz hcap hsz hrow hF hR ih =>
    refine .sl es b o cap sz hcap hsz hrow (fun i j hi hj => ?_) (fun i r j c hr hc => ?_)
    · obtain ⟨h1, h2⟩ := hF i j hi hj
      exact ⟨h.mono _ _ h1, by rw [h.froz _ _ h1]; exact h2⟩
    · have hi : i < es.length := (List.getElem?_eq_some_iff.1 hr).1
      have hj : j < sz := by have := (List.getElem?_eq_some_iff.1 hc).1; rw [hrow i r hr] at this; exact this
      rw [h.froz _ _ (hF i j hi hj).1]
      exact ih i r j c hr hc
  | fn g first vs hl hn hR ih => exact .fn g first vs hl hn ih
  | nilf => exact .nilf

theorem At.keeps {F F' : Cl} {w w' : World} (h : Keeps F F' w w') {b o : Nat} {cs : List PV} (r : At F w b o cs) : At F' w' b o cs := by
  intro j c hc
  obtain ⟨h1, v, h2, h3⟩ := r j c hc
  exact ⟨h.mono _ _ h1, v, by rw [h.froz _ _ h1]; exact h2, h3.keeps h⟩

theorem SlAt.keeps {F F' : Cl} {w w' : World} (h : Keeps F F' w w') {es : List (List PV)} {a : Option Addr} (r : SlAt F w es a) : SlAt F' w' es a := by
  rcases r with r | ⟨b, o, sz, ha, hs, hr⟩
  · exact .inl r
  · exact .inr ⟨b, o, sz, ha, hs, fun i r hi => ⟨(hr i r hi).1, (hr i r hi).2.keeps h⟩⟩

theorem Rp.of_slAt {F : Cl} {w : World} {es : List (List PV)} {a : Option Addr} {n cap : Nat} (h : SlAt F w es a) (hn : n = es.length) (hc : n ≤ cap) : Rp F w (.sl es) (.slice a n cap) := by
  subst hn
  rcases h with rfl | ⟨b, o, sz, rfl, hs, hr⟩
  · exact .sl0 a cap
  · refine .sl es b o cap sz hc hs (fun i r hi => (hr i r hi).1) (fun i j hi hj => ?_) (fun i r j c hr' hc' => ?_)
    · have he : es[i]? = some es[i] := List.getElem?_eq_getElem hi
      obtain ⟨hl, ha⟩ := hr i _ he
      have hj' : j < es[i].length := by rw [hl]; exact hj
      obtain ⟨h1, v, h2, _⟩ := ha j _ (List.getElem?_eq_getElem hj')
      exact ⟨h1, by rw [h2]; rfl⟩
    · obtain ⟨_, ha⟩ := hr i r hr'
      obtain ⟨_, v, h2, h3⟩ := ha j c hc'
      rw [h2]; exact h3

theorem Rp.slAt {F : Cl} {w : World} {es : List (List PV)} {v : Value} (h : Rp F w (.sl es) v) : ∃ a cap, v = .slice a es.length cap ∧ es.length ≤ cap ∧ SlAt F w es a := by
  cases h with
  | sl0 a cap => exact ⟨a, cap, rfl, Nat.zero_le _, .inl rfl⟩
  | sl _ b o cap sz hcap hsz hrow hF hR =>
    refine ⟨_, cap, rfl, hcap, .inr ⟨b, o, sz, rfl, hsz, fun i r hr => ⟨hrow i r hr, fun j c hc => ?_⟩⟩⟩
    have hi : i < es.length := (List.getElem?_eq_some_iff.1 hr).1
    have hj : j < sz := by have := (List.getElem?_eq_some_iff.1 hc).1; rw [hrow i r hr] at this; exact this
    obtain ⟨h1, h2⟩ := hF i j hi hj
    obtain ⟨x, hx⟩ := Option.isSome_iff_exists.1 h2
    have := hR i r j c hr hc
    rw [hx] at this
    exact ⟨h1, x, hx, this⟩

/-- Which block of memory an abstract one is. -/
abbrev Pl := Id → Option Nat

def Blk.isRow : Blk → Bool
  | .row _ | .mrow _ => true
  | _ => false

/-- A slice that its block's owner may append to. -/
def OsV (φ : Pl) (w : World) (id : Id) (sz n : Nat) (x : Value) : Prop :=
  (n = 0 ∧ ∃ a, x = .slice a 0 0) ∨ ∃ r cap e k, φ id = some r ∧ x = .slice (some ⟨r, 0, none⟩) n cap ∧ n ≤ cap ∧ cap ≤ maxLen ∧ w.shape? r = some (e, k) ∧ k = cap * sz

def CR (φ : Pl) (H : Hp) (F : Cl) (w : World) : C → Value → Prop
  | .p v, x => Rp F w v x
  | .ptr id o, x => ∃ b r, H.get id = some b ∧ b.isRow = true ∧ φ id = some r ∧ x = .pointer (some ⟨r, o, none⟩)
  | .ap id n i o, x => ∃ sz fz es b k, H.get id = some (.arr sz fz es) ∧ n ≤ es.length ∧ x = .pointer (some ⟨b, k, none⟩) ∧ (n = es.length → φ id = some b ∧ k = i * sz + o)
  | .rp cs, x => ∃ b o, x = .pointer (some ⟨b, o, none⟩) ∧ At F w b o cs
  | .nilp, x => x = .pointer none
  | .os id n, x => ∃ sz fz es, H.get id = some (.arr sz fz es) ∧ n ≤ es.length ∧ (n = es.length → OsV φ w id sz n x)
  | .nils, x => x = .slice none 0 0
  | .ti es, x => ∃ a, x = .slice a es.length es.length ∧ SlAt F w es a
  | .fn g caps, x => ∃ cv : List Value, x = .func (.func g) #[] cv.toArray ∧
      F2 (fun id v => ∃ b r, H.get id = some b ∧ b.isRow = true ∧ φ id = some r ∧ v = .pointer (some ⟨r, 0, none⟩)) caps cv
  | .nilf, x => x = .nilFunc
  | .bp g id o, x => ∃ b r, H.get id = some b ∧ b.isRow = true ∧ φ id = some r ∧ x = .func (.func g) #[.pointer (some ⟨r, o, none⟩)] #[]
  | .ms id n, x => ∃ b r, H.get id = some b ∧ b.isRow = true ∧ φ id = some r ∧ x = .slice (some ⟨r, 0, none⟩) n n

def Flat (x : Value) : Prop := x.oneCell' = true

inductive AR1 (φ : Pl) (H : Hp) (F : Cl) (w : World) : AV → Value → Prop
  | un (x : Value) : AR1 φ H F w .un x
  | c {c : C} {x : Value} (h : CR φ H F w c x) (hx : Flat x) : AR1 φ H F w (.c c) x
  | agg {cs : List PV} {xs : List Value} (h : F2 (Rp F w) cs xs) : AR1 φ H F w (.agg cs) (.agg xs.toArray)
  | mg {cs : List C} {xs : List Value} (h : F2 (fun c x => CR φ H F w c x ∧ Flat x) cs xs) : AR1 φ H F w (.mg cs) (.agg xs.toArray)

inductive AR (φ : Pl) (H : Hp) (F : Cl) (w : World) : AV → Value → Prop
  | one {v : AV} {x : Value} (h : AR1 φ H F w v x) : AR φ H F w v x
  | tup {vs : List AV} {xs : List Value} (h : F2 (AR1 φ H F w) vs xs) : AR φ H F w (.tup vs) (.tuple xs.toArray)

/-- The cells of a block in memory. -/
def Own (w : World) (r : Nat) (c : Array Value) : Prop := ∃ e, w.heap[r]? = some (.cells c e (0, 0))

def BR (φ : Pl) (H : Hp) (F : Cl) (w : World) (id : Id) : Blk → Prop
  | .row cs => ∃ r c, φ id = some r ∧ Own w r c ∧ (∀ o, ¬ F r o) ∧ F2 (Rp F w) cs c.toList
  | .mrow cs => ∃ r c, φ id = some r ∧ Own w r c ∧ (∀ o, ¬ F r o) ∧ F2 (fun u x => CR φ H F w u x ∧ Flat x) cs c.toList
  | .arr sz fz es => 0 < sz ∧ (∀ (i : Nat) (r : List PV), es[i]? = some r → r.length = sz) ∧
      ((φ id = none ∧ es = []) ∨ ∃ r c, φ id = some r ∧ Own w r c ∧ (∃ cap, c.size = cap * sz ∧ cap ≤ maxLen) ∧ es.length * sz ≤ c.size ∧
        (∀ o, F r o → fz = true ∧ o < es.length * sz) ∧ (fz = true → ∀ o, o < es.length * sz → F r o) ∧
        (∀ (i : Nat) (q : List PV) (j : Nat) (u : PV), es[i]? = some q → q[j]? = some u → ∃ x, c[i * sz + j]? = some x ∧ Rp F w u x))
  | .hole => φ id = none

structure SRel (G : Gl) (φ : Pl) (H : Hp) (F : Cl) (w : World) : Prop where
  inj : ∀ i j r, φ i = some r → φ j = some r → i = j
  dom : ∀ i r, φ i = some r → r < w.heap.size
  has : ∀ i r, φ i = some r → (H.get i).isSome
  blk : ∀ id b, H.get id = some b → BR φ H F w id b
  glob : ∀ g cs, G g = some cs → At F w g 0 cs
  fin : ∀ b o, F b o → b < w.heap.size

/-- How the heap of abstract blocks goes on. -/
def BE (φ φ' : Pl) (id : Id) : Blk → Blk → Prop
  | .row _, .row _ | .row _, .mrow _ | .mrow _, .row _ | .mrow _, .mrow _ => φ' id = φ id
  | .arr sz fz es, .arr sz' fz' es' => sz' = sz ∧ es.length ≤ es'.length ∧ (es'.length = es.length → φ' id = φ id) ∧ (fz = true → fz' = true)
  | .hole, _ => True
  | _, _ => False

structure Evo (φ : Pl) (H : Hp) (F : Cl) (w : World) (φ' : Pl) (H' : Hp) (F' : Cl) (w' : World) : Prop where
  os : w'.os = w.os
  tape : w'.tape = w.tape
  output : w'.output = w.output
  size : w.heap.size ≤ w'.heap.size
  keep : ∀ r, r < w.heap.size → (∀ id, φ id ≠ some r) → w'.heap[r]? = w.heap[r]?
  kp : Keeps F F' w w'
  newF : ∀ b o, F' b o → F b o ∨ (∃ id, φ id = some b) ∨ w.heap.size ≤ b
  new : ∀ id r, φ' id = some r → φ id = some r ∨ w.heap.size ≤ r
  be : ∀ id b, H.get id = some b → ∃ b', H'.get id = some b' ∧ BE φ φ' id b b'
  shp : ∀ r, r < w.heap.size → w'.shape? r = w.shape? r
  npar : H'.par.length = H.par.length

theorem BE.refl (φ : Pl) (id : Id) (b : Blk) : BE φ φ id b b := by
  cases b <;> simp [BE]

theorem BE.trans {φ φ' φ'' : Pl} {id : Id} {a b c : Blk} (h : BE φ φ' id a b) (k : BE φ' φ'' id b c) : BE φ φ'' id a c := by
  cases a <;> cases b <;> cases c <;> simp only [BE] at * <;> try exact k.trans h
  obtain ⟨h1, h2, h3, h4⟩ := h
  obtain ⟨k1, k2, k3, k4⟩ := k
  exact ⟨k1.trans h1, Nat.le_trans h2 k2, fun e => (k3 (by omega)).trans (h3 (by omega)), fun e => k4 (h4 e)⟩

theorem Evo.refl (φ : Pl) (H : Hp) (F : Cl) (w : World) : Evo φ H F w φ H F w where
  os := rfl
  tape := rfl
  output := rfl
  size := Nat.le_refl _
  keep := fun _ _ _ => rfl
  kp := .refl F w
  newF := fun _ _ h => .inl h
  new := fun _ _ h => .inl h
  be := fun id b h => ⟨b, h, BE.refl φ id b⟩
  shp := fun _ _ => rfl
  npar := rfl

theorem Evo.trans {φ φ' φ'' : Pl} {H H' H'' : Hp} {F F' F'' : Cl} {w w' w'' : World} (h : Evo φ H F w φ' H' F' w') (k : Evo φ' H' F' w' φ'' H'' F'' w'') : Evo φ H F w φ'' H'' F'' w'' where
  os := k.os.trans h.os
  tape := k.tape.trans h.tape
  output := k.output.trans h.output
  size := Nat.le_trans h.size k.size
  keep := fun r hr hn => (k.keep r (Nat.lt_of_lt_of_le hr h.size) fun id e => by
    rcases h.new id r e with e | e
    · exact hn id e
    · omega).trans (h.keep r hr hn)
  kp := h.kp.trans k.kp
  newF := fun b o f => by
    rcases k.newF b o f with f | ⟨id, e⟩ | e
    · exact h.newF b o f
    · rcases h.new id b e with e | e
      · exact .inr (.inl ⟨id, e⟩)
      · exact .inr (.inr e)
    · exact .inr (.inr (Nat.le_trans h.size e))
  new := fun id r e => by
    rcases k.new id r e with e | e
    · exact h.new id r e
    · exact .inr (Nat.le_trans h.size e)
  be := fun id b hb => by
    obtain ⟨b', hb', e⟩ := h.be id b hb
    obtain ⟨b'', hb'', e'⟩ := k.be id b' hb'
    exact ⟨b'', hb'', e.trans e'⟩
  shp := fun r hr => (k.shp r (Nat.lt_of_lt_of_le hr h.size)).trans (h.shp r hr)
  npar := k.npar.trans h.npar

theorem lt_of_shape {w : World} {r : Nat} {s : TypeId × Nat} (h : w.shape? r = some s) : r < w.heap.size := by
  unfold World.shape? at h
  cases e : w.heap[r]? with
  | none => simp [e] at h
  | some o => exact (Array.getElem?_eq_some_iff.1 e).1

section
variable {φ φ' : Pl} {H H' : Hp} {F F' : Cl} {w w' : World}

theorem Evo.row (E : Evo φ H F w φ' H' F' w') {id : Id} {b : Blk} (h : H.get id = some b) (hb : b.isRow = true) : ∃ b', H'.get id = some b' ∧ b'.isRow = true ∧ φ' id = φ id := by
  obtain ⟨b', hb', e⟩ := E.be id b h
  cases b <;> cases b' <;> simp_all [BE, Blk.isRow]

theorem Evo.arr (E : Evo φ H F w φ' H' F' w') {id : Id} {sz : Nat} {fz : Bool} {es : List (List PV)} (h : H.get id = some (.arr sz fz es)) :
    ∃ fz' es', H'.get id = some (.arr sz fz' es') ∧ es.length ≤ es'.length ∧ (es'.length = es.length → φ' id = φ id) := by
  obtain ⟨b', hb', e⟩ := E.be id _ h
  cases b' <;> simp only [BE] at e
  obtain ⟨rfl, h2, h3, _⟩ := e
  exact ⟨_, _, hb', h2, h3⟩

theorem OsV.evo (E : Evo φ H F w φ' H' F' w') {id : Id} {sz n : Nat} {x : Value} (hφ : φ' id = φ id) (h : OsV φ w id sz n x) : OsV φ' w' id sz n x := by
  rcases h with h | ⟨r, cap, e, k, h1, h2, h3, h4, h5, h6⟩
  · exact .inl h
  · exact .inr ⟨r, cap, e, k, hφ.trans h1, h2, h3, h4, (E.shp r (lt_of_shape h5)).trans h5, h6⟩

theorem CR.evo (E : Evo φ H F w φ' H' F' w') {c : C} {x : Value} (h : CR φ H F w c x) : CR φ' H' F' w' c x := by
  cases c with
  | p v => exact Rp.keeps E.kp h
  | ptr id o =>
    obtain ⟨b, r, hg, hb, hφ, hx⟩ := h
    obtain ⟨b', hg', hb', hφ'⟩ := E.row hg hb
    exact ⟨b', r, hg', hb', hφ'.trans hφ, hx⟩
  | ap id n i o =>
    obtain ⟨sz, fz, es, b, k, hg, hn, hx, hv⟩ := h
    obtain ⟨fz', es', hg', hl, hφ⟩ := E.arr hg
    refine ⟨sz, fz', es', b, k, hg', Nat.le_trans hn hl, hx, fun e => ?_⟩
    obtain ⟨h1, h2⟩ := hv (by omega)
    exact ⟨(hφ (by omega)).trans h1, h2⟩
  | rp cs =>
    obtain ⟨b, o, hx, ha⟩ := h
    exact ⟨b, o, hx, ha.keeps E.kp⟩
  | nilp => exact h
  | os id n =>
    obtain ⟨sz, fz, es, hg, hn, hv⟩ := h
    obtain ⟨fz', es', hg', hl, hφ⟩ := E.arr hg
    exact ⟨sz, fz', es', hg', Nat.le_trans hn hl, fun e => (hv (by omega)).evo E (hφ (by omega))⟩
  | nils => exact h
  | ti es =>
    obtain ⟨a, hx, hs⟩ := h
    exact ⟨a, hx, hs.keeps E.kp⟩
  | fn g caps =>
    obtain ⟨cv, hx, hc⟩ := h
    refine ⟨cv, hx, hc.imp fun id v ⟨b, r, hg, hb, hφ, hx⟩ => ?_⟩
    obtain ⟨b', hg', hb', hφ'⟩ := E.row hg hb
    exact ⟨b', r, hg', hb', hφ'.trans hφ, hx⟩
  | nilf => exact h
  | bp g id o =>
    obtain ⟨b, r, hg, hb, hφ, hx⟩ := h
    obtain ⟨b', hg', hb', hφ'⟩ := E.row hg hb
    exact ⟨b', r, hg', hb', hφ'.trans hφ, hx⟩
  | ms id n =>
    obtain ⟨b, r, hg, hb, hφ, hx⟩ := h
    obtain ⟨b', hg', hb', hφ'⟩ := E.row hg hb
    exact ⟨b', r, hg', hb', hφ'.trans hφ, hx⟩

theorem AR1.evo (E : Evo φ H F w φ' H' F' w') {v : AV} {x : Value} (h : AR1 φ H F w v x) : AR1 φ' H' F' w' v x := by
  cases h with
  | un x => exact .un x
  | c h hx => exact .c (h.evo E) hx
  | agg h => exact .agg (h.imp fun _ _ r => r.keeps E.kp)
  | mg h => exact .mg (h.imp fun _ _ r => ⟨r.1.evo E, r.2⟩)

theorem AR.evo (E : Evo φ H F w φ' H' F' w') {v : AV} {x : Value} (h : AR φ H F w v x) : AR φ' H' F' w' v x := by
  cases h with
  | one h => exact .one (h.evo E)
  | tup h => exact .tup (h.imp fun _ _ r => r.evo E)

/-- A block that nothing touched. -/
theorem BR.evo (E : Evo φ H F w φ' H' F' w') {id : Id} {b : Blk} (hφ : φ' id = φ id) (hw : ∀ r, φ id = some r → w'.heap[r]? = w.heap[r]?) (hF : ∀ r o, φ id = some r → (F' r o ↔ F r o))
    (h : BR φ H F w id b) : BR φ' H' F' w' id b := by
  cases b with
  | row cs =>
    obtain ⟨r, c, h1, ⟨e, h2⟩, h3, h4⟩ := h
    exact ⟨r, c, hφ.trans h1, ⟨e, (hw r h1).trans h2⟩, fun o f => h3 o ((hF r o h1).1 f), h4.imp fun _ _ q => q.keeps E.kp⟩
  | mrow cs =>
    obtain ⟨r, c, h1, ⟨e, h2⟩, h3, h4⟩ := h
    exact ⟨r, c, hφ.trans h1, ⟨e, (hw r h1).trans h2⟩, fun o f => h3 o ((hF r o h1).1 f), h4.imp fun _ _ q => ⟨q.1.evo E, q.2⟩⟩
  | arr sz fz es =>
    obtain ⟨h0, h1, h2⟩ := h
    refine ⟨h0, h1, ?_⟩
    rcases h2 with ⟨h2, h3⟩ | ⟨r, c, h2, ⟨e, h3⟩, h4, h5, h6, h7, h8⟩
    · exact .inl ⟨hφ.trans h2, h3⟩
    · refine .inr ⟨r, c, hφ.trans h2, ⟨e, (hw r h2).trans h3⟩, h4, h5, fun o f => h6 o ((hF r o h2).1 f), fun z o ho => (hF r o h2).2 (h7 z o ho), fun i q j u hq hu => ?_⟩
      obtain ⟨x, hx, hr⟩ := h8 i q j u hq hu
      exact ⟨x, hx, hr.keeps E.kp⟩
  | hole => exact hφ.trans h
end
end Go.Ab

namespace Go.Ab
open Go

section inv
variable {φ : Pl} {H : Hp} {F : Cl} {w : World} {x : Value}
theorem AR.int {k : IntKind} {n : Int} (h : AR φ H F w (.c (.p (.int k n))) x) : x = .int k n := by
  cases h with | one h => cases h with | c h _ => cases (show Rp F w _ x from h); rfl
theorem AR.bool {b : Bool} (h : AR φ H F w (.c (.p (.bool b))) x) : x = .bool b := by
  cases h with | one h => cases h with | c h _ => cases (show Rp F w _ x from h); rfl
theorem AR.str {s : List UInt8} (h : AR φ H F w (.c (.p (.str s))) x) : ∃ t : ByteArray, x = .string t ∧ t.data.toList = s := by
  cases h with | one h => cases h with | c h _ => cases (show Rp F w _ x from h) with | str t => exact ⟨t, rfl, rfl⟩
theorem AR.cc {c : C} (h : AR φ H F w (.c c) x) : CR φ H F w c x ∧ Flat x := by
  cases h with | one h => cases h with | c h hx => exact ⟨h, hx⟩
theorem AR.aggr {cs : List PV} (h : AR φ H F w (.agg cs) x) : ∃ xs : List Value, x = .agg xs.toArray ∧ F2 (Rp F w) cs xs := by
  cases h with | one h => cases h with | agg h => exact ⟨_, rfl, h⟩
theorem AR.mix {cs : List C} (h : AR φ H F w (.mg cs) x) : ∃ xs : List Value, x = .agg xs.toArray ∧ F2 (fun c x => CR φ H F w c x ∧ Flat x) cs xs := by
  cases h with | one h => cases h with | mg h => exact ⟨_, rfl, h⟩
theorem AR.tupr {vs : List AV} (h : AR φ H F w (.tup vs) x) : ∃ xs : List Value, x = .tuple xs.toArray ∧ F2 (AR1 φ H F w) vs xs := by
  cases h with
  | one h => cases h
  | tup h => exact ⟨_, rfl, h⟩
theorem Rp.flat {p : PV} (h : Rp F w p x) : Flat x := by cases h <;> rfl
theorem AR.ofInt (k : IntKind) (n : Int) : AR φ H F w (.c (.p (.int k n))) (.int k n) := .one (.c (c := .p (.int k n)) (Rp.int k n) rfl)
theorem AR.ofBool (b : Bool) : AR φ H F w (.c (.p (.bool b))) (.bool b) := .one (.c (c := .p (.bool b)) (Rp.bool b) rfl)
theorem AR.ofRp {p : PV} (h : Rp F w p x) : AR φ H F w (.c (.p p)) x := .one (.c (c := .p p) h h.flat)
theorem AR.ofCR {c : C} (h : CR φ H F w c x) (f : Flat x) : AR φ H F w (.c c) x := .one (.c h f)
theorem AR.ofStr {s : List UInt8} (t : ByteArray) (h : t.data.toList = s) : AR φ H F w (.c (.p (.str s))) (.string t) := by
  subst h; exact .ofRp (.str t)
end inv

/-- The model carries an operation out as the abstract one says. -/
def Snd (P : Program) (G : Gl) (s : Sem Next) (φ : Pl) (H : Hp) (F : Cl) (w : World) (v : AV) (H' : Hp) : Prop :=
  ∃ nx xv w' φ' F', s.run P w = .ok nx w' ∧ (nx = .value xv ∨ (nx = .skip ∧ xv = undef)) ∧ Evo φ H F w φ' H' F' w' ∧ SRel G φ' H' F' w' ∧ AR φ' H' F' w' v xv

section
variable {P : Program} {G : Gl} {φ : Pl} {H : Hp} {F : Cl} {w : World} {ρ : Operand → Value} {T : Tm}

theorem Snd.keep {s : Sem Next} {v : AV} {xv : Value} (hS : SRel G φ H F w) (h : s.run P w = .ok (.value xv) w) (hv : AR φ H F w v xv) : Snd P G s φ H F w v H :=
  ⟨_, xv, w, φ, F, h, .inl rfl, Evo.refl φ H F w, hS, hv⟩

theorem run_guard_int (op : BinOp) (t : TypeId) (x y : Operand) (k k' : IntKind) (a b : Int) : (eqGuard op t x y (.int k a) (.int k' b)).run P w = .ok () w := by
  unfold eqGuard; cases op <;> rfl
theorem run_guard_bool (op : BinOp) (t : TypeId) (x y : Operand) (a b : Bool) : (eqGuard op t x y (.bool a) (.bool b)).run P w = .ok () w := by
  unfold eqGuard; cases op <;> rfl
theorem run_guard_str (op : BinOp) (t : TypeId) (x y : Operand) (a b : ByteArray) : (eqGuard op t x y (.string a) (.string b)).run P w = .ok () w := by
  unfold eqGuard; cases op <;> rfl
theorem run_guard_ptr (op : BinOp) (t : TypeId) (x y : Operand) (a b : Option Addr) : (eqGuard op t x y (.pointer a) (.pointer b)).run P w = .ok () w := by
  unfold eqGuard; cases op <;> rfl

theorem run_intA {op : BinOp} {t : TypeId} {k : IntKind} {m n : Int} {b : Bool} {v : PV} (h : intA op k m n = some (b, v)) (hb : b = true) :
    ∃ xv, (binOp op t (.int k m) (.int k n)).run P w = .ok xv w ∧ ∀ {φ H F w}, AR φ H F w (.c (.p v)) xv := by
  subst hb
  cases op <;> simp only [intA, Option.some.injEq, Prod.mk.injEq, reduceCtorEq] at h <;> try obtain ⟨h1, rfl⟩ := h
  case add => exact ⟨_, by simp only [binOp, ne_eq, not_true, if_false, Op.intArith]; rfl, AR.ofInt _ _⟩
  case sub => exact ⟨_, by simp only [binOp, ne_eq, not_true, if_false, Op.intArith]; rfl, AR.ofInt _ _⟩
  case mul => exact ⟨_, by simp only [binOp, ne_eq, not_true, if_false, Op.intArith]; rfl, AR.ofInt _ _⟩
  case quo =>
    have hn : n ≠ 0 := by simpa using h1
    exact ⟨_, by simp only [binOp, ne_eq, not_true, if_false, Op.intDiv, hn]; rfl, AR.ofInt _ _⟩
  case rem =>
    have hn : n ≠ 0 := by simpa using h1
    exact ⟨_, by simp only [binOp, ne_eq, not_true, if_false, Op.intDiv, hn]; rfl, AR.ofInt _ _⟩
  case and => exact ⟨_, by simp only [binOp, ne_eq, not_true, if_false, Op.intBits]; rfl, AR.ofInt _ _⟩
  case or => exact ⟨_, by simp only [binOp, ne_eq, not_true, if_false, Op.intBits]; rfl, AR.ofInt _ _⟩
  case xor => exact ⟨_, by simp only [binOp, ne_eq, not_true, if_false, Op.intBits]; rfl, AR.ofInt _ _⟩
  case andNot => exact ⟨_, by simp only [binOp, ne_eq, not_true, if_false, Op.intBits]; rfl, AR.ofInt _ _⟩
  case eql => exact ⟨_, by simp only [binOp, ne_eq, not_true, if_false, Op.intCmp]; rfl, AR.ofBool _⟩
  case neq => exact ⟨_, by simp only [binOp, ne_eq, not_true, if_false, Op.intCmp]; rfl, AR.ofBool _⟩
  case lss => exact ⟨_, by simp only [binOp, ne_eq, not_true, if_false, Op.intCmp]; rfl, AR.ofBool _⟩
  case leq => exact ⟨_, by simp only [binOp, ne_eq, not_true, if_false, Op.intCmp]; rfl, AR.ofBool _⟩
  case gtr => exact ⟨_, by simp only [binOp, ne_eq, not_true, if_false, Op.intCmp]; rfl, AR.ofBool _⟩
  case geq => exact ⟨_, by simp only [binOp, ne_eq, not_true, if_false, Op.intCmp]; rfl, AR.ofBool _⟩

theorem run_shiftA {op : BinOp} {t : TypeId} {k k' : IntKind} {m n : Int} {b : Bool} {v : PV} (h : shiftA op k m n = some (b, v)) (hb : b = true) :
    ∃ xv, (binOp op t (.int k m) (.int k' n)).run P w = .ok xv w ∧ ∀ {φ H F w}, AR φ H F w (.c (.p v)) xv := by
  subst hb
  cases op <;> simp only [shiftA, Option.some.injEq, Prod.mk.injEq, reduceCtorEq, decide_eq_true_eq] at h <;> obtain ⟨h1, rfl⟩ := h
  all_goals
    have hn : ¬ n < 0 := by omega
    exact ⟨_, by simp only [binOp, Op.shift, hn, if_false]; rfl, AR.ofInt _ _⟩
end
end Go.Ab

namespace Go.Ab
open Go

section
variable {P : Program} {G : Gl} {φ : Pl} {H : Hp} {F : Cl} {w : World}

theorem shapeT_spec {t : TypeId} {agg : Bool} {n : Nat} (h : shapeT P t = some (agg, n)) :
    ∃ i d, P.info? t = some i ∧ P.underlying t = some d ∧ n = i.size ∧ agg = (match d with | .struct _ | .array _ _ => true | _ => false) := by
  unfold shapeT at h
  cases hi : P.info? t with
  | none => simp [hi] at h
  | some i =>
    cases hu : P.underlying t with
    | none => simp [hi, hu] at h
    | some d => refine ⟨i, d, rfl, rfl, ?_⟩; cases d <;> simp [hi, hu] at h <;> exact ⟨h.2.symm, by simp [h.1]⟩

theorem run_isAgg {t : TypeId} {agg : Bool} {n : Nat} (h : shapeT P t = some (agg, n)) (w : World) : (isAgg t).run P w = .ok agg w := by
  obtain ⟨i, d, hi, hu, _, rfl⟩ := shapeT_spec h
  unfold isAgg
  rw [Sem.run_bind, run_underlying hu w]
  cases d <;> simp

theorem run_sizeOf {t : TypeId} {agg : Bool} {n : Nat} (h : shapeT P t = some (agg, n)) (w : World) : (sizeOf t).run P w = .ok n w := by
  obtain ⟨i, d, hi, hu, rfl, _⟩ := shapeT_spec h
  simp [sizeOf, typeInfo, hi]

/-- Related cells from an address on. -/
def AtC {α : Type} (R : α → Value → Prop) (w : World) (b o : Nat) (us : List α) : Prop :=
  ∀ (j : Nat) (u : α), us[j]? = some u → ∃ v, w.cell? ⟨b, o + j, none⟩ = some v ∧ R u v

theorem AtC.list {α : Type} {R : α → Value → Prop} {b : Nat} : ∀ {us : List α} {o : Nat}, AtC R w b o us →
    ∃ xs : List Value, F2 R us xs ∧ ∀ (j : Nat) (v : Value), xs[j]? = some v → w.cell? ⟨b, o + j, none⟩ = some v
  | [], o, _ => ⟨[], .nil, fun j v h => by simp at h⟩
  | u :: us, o, h => by
    obtain ⟨v, hv, hr⟩ := h 0 u rfl
    obtain ⟨xs, h1, h2⟩ := AtC.list (us := us) (o := o + 1) (fun j u hj => by
      have := h (j + 1) u (by simpa using hj)
      rwa [show o + 1 + j = o + (j + 1) by omega])
    refine ⟨v :: xs, .cons hr h1, fun j v' hj => ?_⟩
    cases j with
    | zero => simp at hj; subst hj; exact hv
    | succ j => have := h2 j v' (by simpa using hj); rwa [show o + 1 + j = o + (j + 1) by omega] at this

theorem AtC.sub {α : Type} {R : α → Value → Prop} {b o : Nat} {us : List α} (h : AtC R w b o us) (d n : Nat) : AtC R w b (o + d) ((us.drop d).take n) := by
  intro j u hj
  rw [List.getElem?_take] at hj
  split at hj
  · rw [List.getElem?_drop] at hj
    have := h (d + j) u hj
    rwa [show o + d + j = o + (d + j) by omega]
  · simp at hj

theorem At.atC {b o : Nat} {cs : List PV} (h : At F w b o cs) : AtC (Rp F w) w b o cs := fun j c hc => (h j c hc).2

theorem atC_own {α : Type} {R : α → Value → Prop} {r : Nat} {c : Array Value} (ho : Own w r c) {us : List α} (h : F2 R us c.toList) : AtC R w r 0 us := by
  obtain ⟨e, he⟩ := ho
  intro j u hj
  obtain ⟨v, hv, hr⟩ := h.get hj
  exact ⟨v, by simp [World.cell?, he]; simpa using hv, hr⟩

theorem run_loadAgg {t : TypeId} {n : Nat} (ht : shapeT P t = some (true, n)) {b o : Nat} {xs : List Value} (hl : xs.length = n)
    (h : ∀ (j : Nat) (v : Value), xs[j]? = some v → w.cell? ⟨b, o + j, none⟩ = some v) : (loadVar t ⟨b, o, none⟩).run P w = .ok (.agg xs.toArray) w := by
  subst hl
  have hl := run_loadCells_list (P := P) w ⟨b, o, none⟩ xs (fun j v hv => by rw [Addr.add_lit]; exact h j v hv)
  simp [loadVar, run_isAgg ht, run_sizeOf ht, hl]

theorem run_loadOne {t : TypeId} {n : Nat} (ht : shapeT P t = some (false, n)) {b o : Nat} {v : Value} (h : w.cell? ⟨b, o, none⟩ = some v) : (loadVar t ⟨b, o, none⟩).run P w = .ok v w := by
  simp [loadVar, run_isAgg ht, h]

theorem pureZ_f2 {φ : Pl} {H : Hp} {F : Cl} {w : World} : ∀ {cs : List C} {zs : List PV} {xs : List Value}, pureZ cs = some zs → F2 (fun c x => CR φ H F w c x ∧ Flat x) cs xs → F2 (Rp F w) zs xs
  | [], zs, _, h, .nil => by
    simp only [pureZ, Option.some.injEq] at h
    subst h; exact .nil
  | c :: cs, zs, _, h, .cons h1 h2 => by
    cases c <;> simp only [pureZ, reduceCtorEq] at h
    case p v =>
      split at h
      · rename_i l hl
        simp only [Option.some.injEq] at h
        subst h
        exact .cons h1.1 (pureZ_f2 hl h2)
      · cases h
    case nils =>
      split at h
      · rename_i l hl
        simp only [Option.some.injEq] at h
        subst h
        refine .cons ?_ (pureZ_f2 hl h2)
        rw [show _ = Value.slice none 0 0 from h1.1]
        exact .sl0 none 0
      · cases h
theorem allPure_map {cs : List C} {ps : List PV} (h : allPure cs = some ps) : cs = ps.map .p := by
  induction cs generalizing ps with
  | nil => simp [allPure] at h; subst h; rfl
  | cons c cs ih =>
    cases c <;> simp [allPure] at h
    cases hr : allPure cs with
    | none => simp [hr] at h
    | some l => simp [hr] at h; subst h; rw [ih hr]; rfl

theorem mkAgg_rel {cs : List C} {xs : List Value} (h : F2 (fun c x => CR φ H F w c x ∧ Flat x) cs xs) : AR φ H F w (mkAgg cs) (.agg xs.toArray) := by
  unfold mkAgg
  cases hp : allPure cs with
  | none => exact .one (.mg h)
  | some ps =>
    rw [allPure_map hp] at h
    exact .one (.agg ((F2.mapl.1 h).imp fun a b r => r.1))

/-- A load from pure cells. -/
theorem run_partP {t : TypeId} {agg : Bool} {n : Nat} (ht : shapeT P t = some (agg, n)) {cs : List PV} {b o0 o : Nat} (hA : AtC (Rp F w) w b o0 cs) {p : Bool} {v : AV}
    (h : partP agg n cs o = some (p, v)) (hp : p = true) : ∃ xv, (loadVar t ⟨b, o0 + o, none⟩).run P w = .ok xv w ∧ AR φ H F w v xv := by
  subst hp
  cases agg with
  | true =>
    simp only [partP, Option.some.injEq, Prod.mk.injEq, decide_eq_true_eq] at h
    obtain ⟨hl, rfl⟩ := h
    obtain ⟨xs, h1, h2⟩ := (hA.sub o n).list
    exact ⟨_, run_loadAgg ht (by rw [← h1.len]; simp; omega) h2, .one (.agg h1)⟩
  | false =>
    simp only [partP] at h
    cases hc : cs[o]? with
    | none => simp [hc] at h
    | some u =>
      simp only [hc, Option.some.injEq, Prod.mk.injEq, true_and] at h
      subst h
      obtain ⟨x, hx, hr⟩ := hA o u hc
      exact ⟨x, run_loadOne ht hx, .ofRp hr⟩

theorem run_partM {t : TypeId} {agg : Bool} {n : Nat} (ht : shapeT P t = some (agg, n)) {cs : List C} {b o0 o : Nat} (hA : AtC (fun c x => CR φ H F w c x ∧ Flat x) w b o0 cs) {p : Bool} {v : AV}
    (h : partM agg n cs o = some (p, v)) (hp : p = true) : ∃ xv, (loadVar t ⟨b, o0 + o, none⟩).run P w = .ok xv w ∧ AR φ H F w v xv := by
  subst hp
  cases agg with
  | true =>
    simp only [partM, Option.some.injEq, Prod.mk.injEq, decide_eq_true_eq] at h
    obtain ⟨hl, rfl⟩ := h
    obtain ⟨xs, h1, h2⟩ := (hA.sub o n).list
    exact ⟨_, run_loadAgg ht (by rw [← h1.len]; simp; omega) h2, mkAgg_rel h1⟩
  | false =>
    simp only [partM] at h
    cases hc : cs[o]? with
    | none => simp [hc] at h
    | some u =>
      simp only [hc, Option.some.injEq, Prod.mk.injEq, true_and] at h
      subst h
      obtain ⟨x, hx, hr⟩ := hA o u hc
      exact ⟨x, run_loadOne ht hx, .ofCR hr.1 hr.2⟩

theorem BR.arrAt {id : Id} {sz : Nat} {fz : Bool} {es : List (List PV)} (h : BR φ H F w id (.arr sz fz es)) {i : Nat} {q : List PV} (hq : es[i]? = some q) : ∃ r, φ id = some r ∧ AtC (Rp F w) w r (i * sz) q := by
  obtain ⟨_, _, h2⟩ := h
  rcases h2 with ⟨_, rfl⟩ | ⟨r, c, h2, ⟨e, h3⟩, h4, h5, h6, h7, h8⟩
  · simp at hq
  · refine ⟨r, h2, fun j u hj => ?_⟩
    obtain ⟨x, hx, hr⟩ := h8 i q j u hq hj
    exact ⟨x, by simp [World.cell?, h3, hx], hr⟩

theorem loadS_run {t : TypeId} {agg : Bool} {n : Nat} (ht : shapeT P t = some (agg, n)) (hS : SRel G φ H F w) {a : AV} {x : Value} (ha : AR φ H F w a x) {res : Res}
    (h : loadS agg n a H = some res) (hp : res.pre = true) : res.h = H ∧ ∃ xv, (Instr.loadAt t x).run P w = .ok xv w ∧ AR φ H F w res.v xv := by
  have go : ∀ (b o : Nat) (xv : Value), x = .pointer (some ⟨b, o, none⟩) → (loadVar t ⟨b, o, none⟩).run P w = .ok xv w → (Instr.loadAt t x).run P w = .ok xv w := by
    rintro b o xv rfl hr
    simp [Instr.loadAt, Instr.sureAddr, hr]
  unfold loadS at h
  split at h
  · rename_i cs
    obtain ⟨⟨b, o, rfl, hA⟩, _⟩ := ha.cc
    cases hq : partP agg n cs 0 with
    | none => simp [hq, resOf] at h
    | some q =>
      obtain ⟨p, v⟩ := q
      simp only [hq, resOf, Option.some.injEq] at h
      subst h
      obtain ⟨xv, h1, h2⟩ := run_partP (φ := φ) (H := H) ht hA.atC hq hp
      exact ⟨rfl, xv, go b o xv rfl h1, h2⟩
  · rename_i id o
    obtain ⟨⟨blk, r, hg, _, hφ, rfl⟩, _⟩ := ha.cc
    split at h
    · rename_i cs hgc
      rw [hg] at hgc
      cases hgc
      obtain ⟨r', c, hφ', ho, _, hc⟩ := hS.blk id _ hg
      obtain rfl : r' = r := by rw [hφ] at hφ'; exact (Option.some.inj hφ').symm
      cases hq : partP agg n cs o with
      | none => simp [hq, resOf] at h
      | some q =>
        obtain ⟨p, v⟩ := q
        simp only [hq, resOf, Option.some.injEq] at h
        subst h
        obtain ⟨xv, h1, h2⟩ := run_partP (φ := φ) (H := H) ht (atC_own ho hc) hq hp
        exact ⟨rfl, xv, go _ _ xv rfl (by simpa using h1), h2⟩
    · rename_i cs hgc
      rw [hg] at hgc
      cases hgc
      obtain ⟨r', c, hφ', ho, _, hc⟩ := hS.blk id _ hg
      obtain rfl : r' = r := by rw [hφ] at hφ'; exact (Option.some.inj hφ').symm
      cases hq : partM agg n cs o with
      | none => simp [hq, resOf] at h
      | some q =>
        obtain ⟨p, v⟩ := q
        simp only [hq, resOf, Option.some.injEq] at h
        subst h
        obtain ⟨xv, h1, h2⟩ := run_partM (φ := φ) (H := H) ht (atC_own ho hc) hq hp
        exact ⟨rfl, xv, go _ _ xv rfl (by simpa using h1), h2⟩
    · simp at h
  · rename_i id m i o
    obtain ⟨⟨sz, fz, es, b, k, hg, hm, rfl, hx⟩, _⟩ := ha.cc
    simp only [hg] at h
    cases hi : es[i]? with
    | none => simp [hi] at h
    | some cs =>
      simp only [hi] at h
      cases hq : partP agg n cs o with
      | none => simp [hq] at h
      | some q =>
        obtain ⟨p, v⟩ := q
        simp only [hq, Option.some.injEq] at h
        subst h
        simp only [Bool.and_eq_true, decide_eq_true_eq] at hp
        obtain ⟨hφ, rfl⟩ := hx hp.2
        obtain ⟨r', hφ', hA⟩ := (hS.blk id _ hg).arrAt hi
        obtain rfl : r' = b := by rw [hφ] at hφ'; exact (Option.some.inj hφ').symm
        obtain ⟨xv, h1, h2⟩ := run_partP (φ := φ) (H := H) ht hA hq hp.1
        exact ⟨rfl, xv, go _ _ xv rfl h1, h2⟩
  · simp at h
end
end Go.Ab

namespace Go.Ab
open Go

section
variable {P : Program} {G : Gl} {φ : Pl} {H : Hp} {F : Cl} {w : World}

theorem Hp.get_set_self {H : Hp} {id : Id} {b b' : Blk} (h : H.get id = some b) : (H.set id b').get id = some b' := by
  cases id <;> simp only [Hp.get, Hp.set] at * <;> rw [List.getElem?_set_self (List.getElem?_eq_some_iff.1 h).1]
theorem Hp.get_set_other {H : Hp} {id id' : Id} {b' : Blk} (h : id' ≠ id) : (H.set id b').get id' = H.get id' := by
  cases id <;> cases id' <;> simp only [Hp.get, Hp.set] <;> first
    | rfl
    | (rw [List.getElem?_set_ne]; intro e; subst e; exact h rfl)
theorem Hp.get_add_old {H : Hp} {id : Id} {b b' : Blk} (h : H.get id = some b) : (H.add b').get id = some b := by
  cases id <;> simp only [Hp.get, Hp.add] at *
  · exact h
  · rw [List.getElem?_append_left (List.getElem?_eq_some_iff.1 h).1]; exact h
theorem Hp.get_add_new {H : Hp} {b : Blk} : (H.add b).get H.nid = some b := by
  simp [Hp.get, Hp.add, Hp.nid]
theorem Hp.get_add_cases {H : Hp} {id : Id} {b b' : Blk} (h : (H.add b').get id = some b) : H.get id = some b ∨ (id = H.nid ∧ b = b') := by
  cases id with
  | par n => exact .inl h
  | loc n =>
    simp only [Hp.get, Hp.add, List.getElem?_append] at h
    split at h
    · exact .inl h
    · rename_i hn
      have hlt := (List.getElem?_eq_some_iff.1 h).1
      simp at hlt
      obtain rfl : n = H.loc.length := by omega
      simp at h
      exact .inr ⟨rfl, h.symm⟩
theorem Hp.nid_none {H : Hp} : H.get H.nid = none := by simp [Hp.get, Hp.nid]

theorem cell_of_heap {w w' : World} {b o : Nat} (h : w'.heap[b]? = w.heap[b]?) : w'.cell? ⟨b, o, none⟩ = w.cell? ⟨b, o, none⟩ := by simp [World.cell?, h]
theorem shape_of_heap {w w' : World} {r : Nat} (h : w'.heap[r]? = w.heap[r]?) : w'.shape? r = w.shape? r := by simp [World.shape?, h]

/-- One block's cells are written. -/
theorem evo_set {id : Id} {b b' : Blk} {r : Nat} {cur cur' : Array Value} {e : TypeId} (hg : H.get id = some b) (hbe : BE φ φ id b b') (hφ : φ id = some r) (hF : ∀ o, ¬ F r o)
    (ho : w.heap[r]? = some (.cells cur e (0, 0))) (hsz : cur'.size = cur.size) : Evo φ H F w φ (H.set id b') F (w.setRow r cur') where
  os := rfl
  tape := rfl
  output := rfl
  size := by simp
  keep := fun r' _ hn => setRow_other w r r' cur' (fun e => hn id (e ▸ hφ))
  kp := ⟨fun _ _ h => h, fun b o f => cell_of_heap (setRow_other w r b cur' (fun e => hF o (e ▸ f)))⟩
  newF := fun _ _ h => .inl h
  new := fun _ _ h => .inl h
  be := fun id' c hc => by
    by_cases h : id' = id
    · subst h
      rw [hg] at hc
      cases hc
      exact ⟨b', Hp.get_set_self hg, hbe⟩
    · exact ⟨c, by rw [Hp.get_set_other h]; exact hc, BE.refl φ id' c⟩
  shp := fun r' _ => by
    by_cases h : r' = r
    · subst h
      simp [World.shape?, ho, setRow_heap w r' cur cur' e _ ho, hsz]
    · exact shape_of_heap (setRow_other w r r' cur' h)
  npar := by cases id <;> simp [Hp.set]

theorem srel_set (hS : SRel G φ H F w) {id : Id} {b b' : Blk} {r : Nat} {cur cur' : Array Value} {e : TypeId} (hg : H.get id = some b) (hbe : BE φ φ id b b') (hφ : φ id = some r) (hF : ∀ o, ¬ F r o)
    (ho : w.heap[r]? = some (.cells cur e (0, 0))) (hsz : cur'.size = cur.size) (hb : BR φ (H.set id b') F (w.setRow r cur') id b') : SRel G φ (H.set id b') F (w.setRow r cur') := by
  have E := evo_set (cur' := cur') hg hbe hφ hF ho hsz
  refine ⟨hS.inj, fun i r' h => by simpa using hS.dom i r' h, fun i r' h => ?_, fun id' c hc => ?_, fun g cs h => (hS.glob g cs h).keeps E.kp, fun b o f => by simpa using hS.fin b o f⟩
  · obtain ⟨c, hc⟩ := Option.isSome_iff_exists.1 (hS.has i r' h)
    obtain ⟨c', hc', _⟩ := E.be i c hc
    simp [hc']
  · by_cases h : id' = id
    · subst h
      rw [Hp.get_set_self hg] at hc
      cases hc
      exact hb
    · rw [Hp.get_set_other h] at hc
      refine BR.evo E rfl (fun r' hr' => setRow_other w r r' cur' (fun e => h (hS.inj id' id r' hr' (e ▸ hφ)))) (fun _ _ _ => Iff.rfl) (hS.blk id' c hc)

/-- The new place of a block that has just been made. -/
def newφ (φ : Pl) (H : Hp) (r : Nat) : Pl := fun i => if i = H.nid then some r else φ i

theorem newφ_old (hS : SRel G φ H F w) {id : Id} {b : Blk} {r : Nat} (h : H.get id = some b) : newφ φ H r id = φ id := by
  unfold newφ
  rw [if_neg]
  intro e
  rw [e, Hp.nid_none] at h
  cases h

/-- The world gains a block (and may have drawn). -/
structure Grown (w w' : World) (o : Obj) : Prop where
  os : w'.os = w.os
  tape : w'.tape = w.tape
  output : w'.output = w.output
  heap : w'.heap = w.heap.push o

theorem Grown.alloc (w : World) (o : Obj) : Grown w (w.alloc o) o := ⟨rfl, rfl, rfl, rfl⟩
theorem Grown.drewAlloc (w : World) (o : Obj) : Grown w (w.drew.alloc o) o := ⟨rfl, rfl, rfl, rfl⟩
theorem Grown.old {w w' : World} {o : Obj} (h : Grown w w' o) {r : Nat} (hr : r < w.heap.size) : w'.heap[r]? = w.heap[r]? := by
  rw [h.heap, Array.getElem?_push, if_neg (Nat.ne_of_lt hr)]
theorem Grown.new {w w' : World} {o : Obj} (h : Grown w w' o) : w'.heap[w.heap.size]? = some o := by
  rw [h.heap]; simp
theorem Grown.size {w w' : World} {o : Obj} (h : Grown w w' o) : w'.heap.size = w.heap.size + 1 := by rw [h.heap]; simp

theorem no_phi_nid (hS : SRel G φ H F w) : φ H.nid = none := by
  cases h : φ H.nid with
  | none => rfl
  | some r => have := hS.has _ _ h; rw [Hp.nid_none] at this; simp at this

theorem evo_new (hS : SRel G φ H F w) {w' : World} {o : Obj} (hG : Grown w w' o) (b : Blk) (F' : Cl) (hF : ∀ b o, F b o → F' b o) (hF' : ∀ b o, F' b o → F b o ∨ b = w.heap.size) :
    Evo φ H F w (newφ φ H w.heap.size) (H.add b) F' w' where
  os := hG.os
  tape := hG.tape
  output := hG.output
  size := by rw [hG.size]; omega
  keep := fun r hr _ => hG.old hr
  kp := ⟨hF, fun b o f => cell_of_heap (hG.old (hS.fin b o f))⟩
  newF := fun b o f => by
    rcases hF' b o f with h | h
    · exact .inl h
    · exact .inr (.inr (by omega))
  new := fun id r h => by
    unfold newφ at h
    split at h
    · cases h; exact .inr (Nat.le_refl _)
    · exact .inl h
  be := fun id c hc => ⟨c, Hp.get_add_old hc, by
    have := newφ_old (r := w.heap.size) hS hc
    cases c <;> simp [BE, this]⟩
  shp := fun r hr => shape_of_heap (hG.old hr)
  npar := rfl

theorem srel_new (hS : SRel G φ H F w) {w' : World} {o : Obj} (hG : Grown w w' o) (b : Blk) (F' : Cl) (hF : ∀ b o, F b o → F' b o) (hF' : ∀ b o, F' b o → F b o ∨ b = w.heap.size)
    (hb : BR (newφ φ H w.heap.size) (H.add b) F' w' H.nid b) : SRel G (newφ φ H w.heap.size) (H.add b) F' w' := by
  have E := evo_new hS hG b F' hF hF'
  refine ⟨fun i j r hi hj => ?_, fun i r h => ?_, fun i r h => ?_, fun id c hc => ?_, fun g cs h => (hS.glob g cs h).keeps E.kp, fun b o f => ?_⟩
  · unfold newφ at hi hj
    split at hi <;> split at hj
    · simp_all
    · cases hi; have := hS.dom j _ hj; omega
    · cases hj; have := hS.dom i _ hi; omega
    · exact hS.inj i j r hi hj
  · rw [hG.size]
    unfold newφ at h
    split at h
    · cases h; omega
    · have := hS.dom i r h; omega
  · unfold newφ at h
    split at h
    · rename_i e; subst e; rw [Hp.get_add_new]; rfl
    · obtain ⟨c, hc⟩ := Option.isSome_iff_exists.1 (hS.has i r h)
      rw [Hp.get_add_old hc]; rfl
  · rcases Hp.get_add_cases hc with hc | ⟨rfl, rfl⟩
    · refine BR.evo E (newφ_old hS hc) (fun r h => hG.old (hS.dom id r h)) (fun r o h => ⟨fun f => ?_, hF r o⟩) (hS.blk id c hc)
      rcases hF' r o f with f | f
      · exact f
      · have := hS.dom id r h; omega
    · exact hb
  · rw [hG.size]
    rcases hF' b o f with h | h
    · have := hS.fin b o h; omega
    · omega

theorem newφ_new : newφ φ H w.heap.size H.nid = some w.heap.size := by simp [newφ]

/-- A variable of its own: 'alloc', 'box'. -/
theorem snd_row (hS : SRel G φ H F w) {w' : World} {xs : List Value} {e : TypeId} (hG : Grown w w' (.cells xs.toArray e)) {a : AV} {b : Blk} (hb : mkRow a = some b)
    (hc : (∃ cs, a = .agg cs ∧ F2 (Rp F w) cs xs) ∨ (∃ cs, a = .mg cs ∧ F2 (fun c x => CR φ H F w c x ∧ Flat x) cs xs) ∨ (∃ c x, a = .c c ∧ xs = [x] ∧ CR φ H F w c x ∧ Flat x)) :
    Evo φ H F w (newφ φ H w.heap.size) (H.add b) F w' ∧ SRel G (newφ φ H w.heap.size) (H.add b) F w' ∧ AR (newφ φ H w.heap.size) (H.add b) F w' (.c (.ptr H.nid 0)) (.pointer (some ⟨w.heap.size, 0, none⟩)) := by
  have E := evo_new hS hG b F (fun _ _ h => h) (fun _ _ h => .inl h)
  have hrow : b.isRow = true := by
    rcases hc with ⟨cs, rfl, _⟩ | ⟨cs, rfl, _⟩ | ⟨c, x, rfl, _⟩
    · simp [mkRow] at hb; subst hb; rfl
    · simp [mkRow] at hb; subst hb; rfl
    · cases c <;> simp [mkRow] at hb <;> subst hb <;> rfl
  have hnF : ∀ o, ¬ F w.heap.size o := fun o f => by have := hS.fin _ _ f; omega
  have own : Own w' w.heap.size xs.toArray := ⟨e, hG.new⟩
  refine ⟨E, srel_new hS hG b F (fun _ _ h => h) (fun _ _ h => .inl h) ?_, .ofCR ⟨b, w.heap.size, Hp.get_add_new, hrow, newφ_new, rfl⟩ rfl⟩
  rcases hc with ⟨cs, rfl, h⟩ | ⟨cs, rfl, h⟩ | ⟨c, x, rfl, rfl, h, hf⟩
  · simp [mkRow] at hb; subst hb
    exact ⟨_, _, newφ_new, own, hnF, h.imp fun _ _ r => r.keeps E.kp⟩
  · simp [mkRow] at hb; subst hb
    exact ⟨_, _, newφ_new, own, hnF, h.imp fun _ _ r => ⟨r.1.evo E, r.2⟩⟩
  · cases c with
    | p v => simp [mkRow] at hb; subst hb; exact ⟨_, _, newφ_new, own, hnF, .cons (Rp.keeps E.kp h) .nil⟩
    | _ => simp [mkRow] at hb; subst hb; exact ⟨_, _, newφ_new, own, hnF, .cons ⟨h.evo E, hf⟩ .nil⟩

/-- What stands at so many cells, put in. -/
theorem putAt_f2 {α : Type} {R : α → Value → Prop} {cs us : List α} {xs ys : List Value} (h : F2 R cs xs) (k : F2 R us ys) (o : Nat) : F2 R (putAt cs o us) (putAt xs o ys) := by
  unfold putAt
  rw [k.len]
  exact ((h.take o).app k).app (h.drop _)

theorem putAt_len {α : Type} {cs us : List α} {o : Nat} (h : o + us.length ≤ cs.length) : (putAt cs o us).length = cs.length := by
  simp [putAt]; omega

theorem run_storeAt {t : TypeId} {agg : Bool} {n : Nat} (ht : shapeT P t = some (agg, n)) {r o : Nat} {cur : Array Value} {e : TypeId} (hr : w.heap[r]? = some (.cells cur e (0, 0))) {xv : Value} (hn : xv.cells.size = n)
    (hf : ∀ v ∈ xv.cells.toList, Flat v) (hl : o + n ≤ cur.size) : (Instr.storeAt t (.pointer (some ⟨r, o, none⟩)) xv).run P w = .ok () (w.setRow r (putAt cur.toList o xv.cells.toList).toArray) := by
  have hst := run_storeCells_at P r o e xv.cells.toList 0 cur w hr (by simp; omega) hf
  have hne : ¬ (xv.cells.size ≠ n) := by simp [hn]
  simp only [Instr.storeAt, Instr.sureAddr, Sem.run_bind, Sem.run_pure, Result.andThen_ok, storeVar, run_sizeOf ht, Sem.run_ite, hne, if_false, ne_eq]
  simp only [Nat.add_zero] at hst
  rw [hst]
  rfl

theorem AR.cells {a : AV} {x : Value} (h : AR φ H F w a x) {us : List C} (hu : cellsA a = some us) : F2 (fun c x => CR φ H F w c x ∧ Flat x) us x.cells.toList := by
  cases a with
  | c c =>
    simp [cellsA] at hu; subst hu
    obtain ⟨h, hf⟩ := h.cc
    have : x.cells = #[x] := by cases x <;> first | rfl | (cases hf)
    rw [this]
    exact .cons ⟨h, hf⟩ .nil
  | agg cs =>
    simp [cellsA] at hu; subst hu
    obtain ⟨xs, hx, h'⟩ := h.aggr
    rw [hx]
    exact F2.mapl.2 (h'.imp fun c x r => ⟨r, r.flat⟩)
  | mg cs =>
    simp [cellsA] at hu; subst hu
    obtain ⟨xs, hx, h'⟩ := h.mix
    rw [hx]
    exact h'
  | _ => simp [cellsA] at hu
end
end Go.Ab

namespace Go.Ab
open Go

section
variable {P : Program} {G : Gl} {φ : Pl} {H : Hp} {F : Cl} {w : World}

def rowCells : Blk → List C
  | .row cs => cs.map .p
  | .mrow cs => cs
  | .arr .. => []
  | .hole => []

theorem br_cells {id : Id} {b : Blk} (hb : b.isRow = true) (h : BR φ H F w id b) : ∃ r c, φ id = some r ∧ Own w r c ∧ (∀ o, ¬ F r o) ∧ F2 (fun u x => CR φ H F w u x ∧ Flat x) (rowCells b) c.toList := by
  cases b with
  | row cs => obtain ⟨r, c, h1, h2, h3, h4⟩ := h; exact ⟨r, c, h1, h2, h3, F2.mapl.2 (h4.imp fun _ _ q => ⟨q, q.flat⟩)⟩
  | mrow cs => obtain ⟨r, c, h1, h2, h3, h4⟩ := h; exact ⟨r, c, h1, h2, h3, h4⟩
  | arr => simp [Blk.isRow] at hb
  | hole => simp [Blk.isRow] at hb

theorem br_of_cells {id : Id} {b : Blk} (hb : b.isRow = true) {r : Nat} {c : Array Value} (h1 : φ id = some r) (h2 : Own w r c) (h3 : ∀ o, ¬ F r o) (h4 : F2 (fun u x => CR φ H F w u x ∧ Flat x) (rowCells b) c.toList) : BR φ H F w id b := by
  cases b with
  | row cs => exact ⟨r, c, h1, h2, h3, (F2.mapl.1 h4).imp fun _ _ q => q.1⟩
  | mrow cs => exact ⟨r, c, h1, h2, h3, h4⟩
  | arr => simp [Blk.isRow] at hb
  | hole => simp [Blk.isRow] at hb

theorem be_rows {φ' : Pl} {id : Id} {b b' : Blk} (hb : b.isRow = true) (hb' : b'.isRow = true) (h : φ' id = φ id) : BE φ φ' id b b' := by
  cases b <;> cases b' <;> simp_all [Blk.isRow, BE]

theorem map_putAt {α β : Type} (f : α → β) (cs us : List α) (o : Nat) : (putAt cs o us).map f = putAt (cs.map f) o (us.map f) := by
  simp [putAt, List.map_take, List.map_drop]

theorem flat_of_f2 {α : Type} {R : α → Value → Prop} {us : List α} {xs : List Value} (h : F2 (fun c x => R c x ∧ Flat x) us xs) : ∀ v ∈ xs, Flat v := by
  induction h with
  | nil => intro v hv; cases hv
  | cons h _ ih =>
    intro v hv
    rcases List.mem_cons.1 hv with rfl | hv
    · exact h.2
    · exact ih v hv

theorem store_row {t : TypeId} {agg : Bool} {n : Nat} (ht : shapeT P t = some (agg, n)) (hS : SRel G φ H F w) {id : Id} {o : Nat} {x xv : Value} {v : AV} (ha : AR φ H F w (.c (.ptr id o)) x) (hv : AR φ H F w v xv)
    {b b' : Blk} (hg : H.get id = some b) (hb' : b'.isRow = true) {us : List C} (hu : cellsA v = some us) (hn : n = us.length) (hl : o + us.length ≤ (rowCells b).length) (hc : rowCells b' = putAt (rowCells b) o us) :
    ∃ w', (Instr.storeAt t x xv).run P w = .ok () w' ∧ Evo φ H F w φ (H.set id b') F w' ∧ SRel G φ (H.set id b') F w' := by
  obtain ⟨⟨b0, r, hg0, hb, hφ, rfl⟩, _⟩ := ha.cc
  rw [hg] at hg0
  cases hg0
  obtain ⟨r', c, hφ', ⟨e, ho⟩, hnF, hcs⟩ := br_cells hb (hS.blk id b hg)
  obtain rfl : r' = r := by rw [hφ] at hφ'; exact (Option.some.inj hφ').symm
  have hvc := hv.cells hu
  have hlen : xv.cells.size = n := by have := hvc.len; simp at this; omega
  have hsz : o + n ≤ c.size := by have := hcs.len; simp at this; omega
  have hrun := run_storeAt ht ho hlen (flat_of_f2 hvc) hsz
  have hsize : (putAt c.toList o xv.cells.toList).toArray.size = c.size := by
    have := putAt_len (cs := c.toList) (us := xv.cells.toList) (o := o) (by simp; omega)
    simpa using this
  have hbe : BE φ φ id b b' := be_rows hb hb' rfl
  have E := evo_set (cur' := (putAt c.toList o xv.cells.toList).toArray) hg hbe hφ hnF ho hsize
  refine ⟨_, hrun, E, srel_set hS hg hbe hφ hnF ho hsize (br_of_cells hb' hφ ⟨e, setRow_heap w _ c _ e _ ho⟩ hnF ?_)⟩
  rw [hc]
  exact putAt_f2 (hcs.imp fun _ _ q => ⟨q.1.evo E, q.2⟩) (hvc.imp fun _ _ q => ⟨q.1.evo E, q.2⟩) o

theorem store_arr {t : TypeId} {agg : Bool} {n : Nat} (ht : shapeT P t = some (agg, n)) (hS : SRel G φ H F w) {id : Id} {m i o : Nat} {x xv : Value} {v : AV} (ha : AR φ H F w (.c (.ap id m i o)) x) (hv : AR φ H F w v xv)
    {sz : Nat} {es : List (List PV)} (hg : H.get id = some (.arr sz false es)) {cs us : List PV} (hi : es[i]? = some cs) (hu : cellsA v = some (us.map .p)) (hn : n = us.length) (hl : o + us.length ≤ cs.length) (hm : m = es.length) :
    ∃ w', (Instr.storeAt t x xv).run P w = .ok () w' ∧ Evo φ H F w φ (H.set id (.arr sz false (es.set i (putAt cs o us)))) F w' ∧ SRel G φ (H.set id (.arr sz false (es.set i (putAt cs o us)))) F w' := by
  obtain ⟨⟨sz0, fz0, es0, r, k0, hg0, hm0, rfl, hx⟩, _⟩ := ha.cc
  rw [hg] at hg0
  cases hg0
  obtain ⟨hφ, rfl⟩ := hx hm
  obtain ⟨hs0, hrows, h2⟩ := hS.blk id _ hg
  have hil : i < es.length := (List.getElem?_eq_some_iff.1 hi).1
  rcases h2 with ⟨_, rfl⟩ | ⟨r', c, h2, ⟨e, ho⟩, hcap, hfit, hF1, hF2, hcont⟩
  · simp at hil
  obtain rfl : r' = r := by rw [hφ] at h2; exact (Option.some.inj h2).symm
  have hnF : ∀ o, ¬ F r' o := fun o f => by have := (hF1 o f).1; simp at this
  have hcl : cs.length = sz := hrows i cs hi
  have hvc := hv.cells hu
  have hlen : xv.cells.size = n := by have := hvc.len; simp at this; omega
  have hbnd : i * sz + sz ≤ es.length * sz := by
    have : (i + 1) * sz ≤ es.length * sz := Nat.mul_le_mul_right sz hil
    rwa [Nat.succ_mul] at this
  have hsz : i * sz + o + n ≤ c.size := by omega
  have hrun := run_storeAt ht ho hlen (flat_of_f2 hvc) hsz
  have hsize : (putAt c.toList (i * sz + o) xv.cells.toList).toArray.size = c.size := by
    have := putAt_len (cs := c.toList) (us := xv.cells.toList) (o := i * sz + o) (by simp; omega)
    simpa using this
  have hbe : BE φ φ id (.arr sz false es) (.arr sz false (es.set i (putAt cs o us))) := by simp [BE]
  have E := evo_set (cur' := (putAt c.toList (i * sz + o) xv.cells.toList).toArray) hg hbe hφ hnF ho hsize
  refine ⟨_, hrun, E, srel_set hS hg hbe hφ hnF ho hsize ⟨hs0, fun j q hq => ?_, .inr ⟨r', _, hφ, ⟨e, setRow_heap w _ c _ e _ ho⟩, ?_, ?_, fun o f => absurd f (hnF o), (fun h => by cases h), fun j q k u hq hu' => ?_⟩⟩⟩
  · rw [List.getElem?_set] at hq
    split at hq
    · cases hq; rw [putAt_len hl]; exact hcl
    · exact hrows j q hq
  · obtain ⟨cap, h1, h2⟩ := hcap
    exact ⟨cap, by rw [hsize]; exact h1, h2⟩
  · rw [hsize]; simpa using hfit
  · have hlv : xv.cells.toList.length = us.length := by have := hvc.len; simp at this ⊢; omega
    have hnew : ∀ k, (putAt c.toList (i * sz + o) xv.cells.toList).toArray[k]? = if k < i * sz + o then c[k]? else if k < i * sz + o + us.length then xv.cells.toList[k - (i * sz + o)]? else c[k]? := by
      intro k
      have ht1 : (c.toList.take (i * sz + o)).length = i * sz + o := by simp; omega
      simp only [putAt, List.getElem?_toArray, List.getElem?_append, List.length_append, ht1, hlv]
      by_cases h1 : k < i * sz + o
      · have h3 : k < i * sz + o + us.length := by omega
        simp [h1, h3, List.getElem?_take]
      · by_cases h3 : k < i * sz + o + us.length
        · simp [h1, h3]
        · simp [h1, h3, List.getElem?_drop]
          congr 1
          omega
    by_cases hj : j = i
    · subst hj
      rw [List.getElem?_set_self hil] at hq
      cases hq
      have hk : k < cs.length := by rw [← putAt_len hl]; exact (List.getElem?_eq_some_iff.1 hu').1
      have ht2 : (cs.take o).length = o := by simp; omega
      simp only [putAt, List.getElem?_append, List.length_append, ht2] at hu'
      rw [hnew]
      by_cases h1 : k < o
      · have h3 : k < o + us.length := by omega
        simp only [h1, h3, if_true, List.getElem?_take] at hu'
        obtain ⟨x, hx, hr⟩ := hcont j cs k u hi hu'
        exact ⟨x, by rw [if_pos (by omega)]; exact hx, hr.keeps E.kp⟩
      · by_cases h3 : k < o + us.length
        · simp only [h1, h3, if_true, if_false] at hu'
          obtain ⟨x, hx, hr⟩ := (F2.mapl.1 hvc).get hu'
          refine ⟨x, ?_, Rp.keeps E.kp hr.1⟩
          rw [if_neg (by omega), if_pos (by omega), show j * sz + k - (j * sz + o) = k - o by omega]
          exact hx
        · simp only [h3, if_false, List.getElem?_drop] at hu'
          rw [show o + us.length + (k - (o + us.length)) = k by omega] at hu'
          obtain ⟨x, hx, hr⟩ := hcont j cs k u hi hu'
          exact ⟨x, by rw [if_neg (by omega), if_neg (by omega)]; exact hx, hr.keeps E.kp⟩
    · rw [List.getElem?_set_ne (Ne.symm hj)] at hq
      obtain ⟨x, hx, hr⟩ := hcont j q k u hq hu'
      refine ⟨x, ?_, hr.keeps E.kp⟩
      have hk : k < sz := by have := (List.getElem?_eq_some_iff.1 hu').1; rw [hrows j q hq] at this; exact this
      rw [hnew]
      rcases Nat.lt_or_gt_of_ne hj with hlt | hgt
      · have : (j + 1) * sz ≤ i * sz := Nat.mul_le_mul_right sz hlt
        rw [Nat.succ_mul] at this
        rw [if_pos (by omega)]
        exact hx
      · have : (i + 1) * sz ≤ j * sz := Nat.mul_le_mul_right sz hgt
        rw [Nat.succ_mul] at this
        rw [if_neg (by omega), if_neg (by omega)]
        exact hx

theorem storeS_run {t : TypeId} {agg : Bool} {n : Nat} (ht : shapeT P t = some (agg, n)) (hS : SRel G φ H F w) {a v : AV} {x xv : Value} (ha : AR φ H F w a x) (hv : AR φ H F w v xv) {res : Res}
    (h : storeS n a v H = some res) (hp : res.pre = true) : res.v = .tup [] ∧ ∃ w', (Instr.storeAt t x xv).run P w = .ok () w' ∧ Evo φ H F w φ res.h F w' ∧ SRel G φ res.h F w' := by
  unfold storeS at h
  split at h
  · rename_i id o
    split at h <;> simp only [Option.some.injEq, reduceCtorEq] at h <;> subst h <;> simp only [decide_eq_true_eq] at hp <;> refine ⟨rfl, ?_⟩
    · rename_i hg; exact store_row ht hS ha hv hg rfl rfl hp.1 (by simpa [rowCells] using hp.2) (by simp [rowCells, map_putAt])
    · rename_i hg; exact store_row ht hS ha hv hg rfl rfl (by simpa using hp.1) (by simpa [rowCells] using hp.2) (by simp [rowCells, map_putAt])
    · rename_i hg; exact store_row ht hS ha hv hg rfl rfl hp.1 (by simpa [rowCells] using hp.2) (by simp [rowCells])
    · rename_i hg; exact store_row ht hS ha hv hg rfl rfl hp.1 (by simpa [rowCells] using hp.2) (by simp [rowCells])
    · rename_i hg; exact store_row ht hS ha hv hg rfl rfl hp.1 (by simpa [rowCells] using hp.2) (by simp [rowCells])
    · rename_i hg; exact store_row ht hS ha hv hg rfl rfl (by simpa using hp.1) (by simpa [rowCells] using hp.2) (by simp [rowCells])
    · rename_i hg; exact store_row ht hS ha hv hg rfl rfl hp.1 (by simpa [rowCells] using hp.2) (by simp [rowCells])
  · rename_i id m i o
    split at h
    · rename_i hg
      split at h
      · rename_i cs hi
        simp only [Option.some.injEq] at h
        subst h
        simp only [decide_eq_true_eq] at hp
        exact ⟨rfl, store_arr ht hS ha hv hg hi (us := [_]) rfl hp.1 (by simpa using hp.2.1) hp.2.2⟩
      · cases h
    · rename_i hg
      split at h
      · rename_i cs hi
        simp only [Option.some.injEq] at h
        subst h
        simp only [decide_eq_true_eq] at hp
        exact ⟨rfl, store_arr ht hS ha hv hg hi rfl hp.1 hp.2.1 hp.2.2⟩
      · cases h
    · cases h
  · cases h
end
end Go.Ab

namespace Go.Ab
open Go

section
variable {P : Program} {G : Gl} {φ : Pl} {H : Hp} {F : Cl} {w : World}

theorem addC_rel {c c' : C} {n : Nat} {x : Value} (h : CR φ H F w c x) (hc : addC c n = some c') : ∃ b o, x = .pointer (some ⟨b, o, none⟩) ∧ CR φ H F w c' (.pointer (some ⟨b, o + n, none⟩)) := by
  cases c <;> simp only [addC, Option.some.injEq, reduceCtorEq] at hc
  · subst hc
    obtain ⟨b, r, h1, h2, h3, rfl⟩ := h
    exact ⟨_, _, rfl, b, r, h1, h2, h3, rfl⟩
  · subst hc
    obtain ⟨sz, fz, es, b, k, h1, h2, rfl, h3⟩ := h
    exact ⟨_, _, rfl, sz, fz, es, b, _, h1, h2, rfl, fun e => ⟨(h3 e).1, by have := (h3 e).2; omega⟩⟩
  · subst hc
    obtain ⟨b, o, rfl, h1⟩ := h
    refine ⟨_, _, rfl, b, _, rfl, fun j u hj => ?_⟩
    rw [List.getElem?_drop] at hj
    have := h1 (n + j) u hj
    rwa [show o + n + j = o + (n + j) by omega]

theorem fieldOf_spec {t : TypeId} {f off n : Nat} {agg : Bool} (h : fieldOf P t f = some (off, agg, n)) :
    ∃ fs fd, P.underlying t = some (.struct fs) ∧ fs[f]? = some fd ∧ fd.offset = off ∧ shapeT P fd.type = some (agg, n) := by
  unfold fieldOf at h
  split at h
  · rename_i fs hu
    split at h
    · rename_i fd hf
      split at h
      · rename_i a m hs
        simp only [Option.some.injEq, Prod.mk.injEq] at h
        obtain ⟨rfl, rfl, rfl⟩ := h
        exact ⟨fs, fd, hu, hf, rfl, hs⟩
      · cases h
    · cases h
  · cases h

theorem run_fieldAt {t : TypeId} {f off n : Nat} {agg : Bool} (h : fieldOf P t f = some (off, agg, n)) (hn : 0 < n) (b o : Nat) :
    (Instr.fieldAt t (.pointer (some ⟨b, o, none⟩)) f).run P w = .ok (.pointer (some ⟨b, o + off, none⟩)) w := by
  obtain ⟨fs, fd, hu, hf, rfl, hs⟩ := fieldOf_spec h
  have hne : ¬ n = 0 := by omega
  simp [Instr.fieldAt, run_underlying hu, hf, Instr.sureAddr, fieldPlace, run_sizeOf hs, hne, Addr.add_lit]

theorem run_indexAt_arr {t e : TypeId} {len : Nat} {j : TypeInfo} (hu : P.underlying t = some (.array len e)) (hj : P.info? e = some j) {k : IntKind} {i : Int} (h0 : 0 ≤ i) (h1 : i < len) (b o : Nat) :
    (Instr.indexAt t (.pointer (some ⟨b, o, none⟩)) (.int k i)).run P w = .ok (.pointer (some ⟨b, o + i.toNat * j.size, none⟩)) w := by
  simp [Instr.indexAt, asIntOf, run_underlying hu, Instr.sureAddr, h0, h1, sizeOf, typeInfo, hj, Addr.add_lit]

theorem run_indexAt_sl {t e : TypeId} {j : TypeInfo} (hu : P.underlying t = some (.slice e)) (hj : P.info? e = some j) {k : IntKind} {i : Int} {len cap : Nat} (h0 : 0 ≤ i) (h1 : i < len) (b o : Nat) :
    (Instr.indexAt t (.slice (some ⟨b, o, none⟩) len cap) (.int k i)).run P w = .ok (.pointer (some ⟨b, o + i.toNat * j.size, none⟩)) w := by
  simp [Instr.indexAt, asIntOf, run_underlying hu, h0, h1, sizeOf, typeInfo, hj, Addr.add_lit]

theorem run_partV {t : TypeId} {agg : Bool} {n : Nat} (ht : shapeT P t = some (agg, n)) {cs : List PV} {xs : List Value} (hA : F2 (Rp F w) cs xs) {o : Nat} {p : Bool} {v : AV}
    (h : partP agg n cs o = some (p, v)) (hp : p = true) : ∃ xv, (part t xs.toArray o).run P w = .ok xv w ∧ AR φ H F w v xv := by
  subst hp
  cases agg with
  | true =>
    simp only [partP, Option.some.injEq, Prod.mk.injEq, decide_eq_true_eq] at h
    obtain ⟨hl, rfl⟩ := h
    refine ⟨.agg ((xs.drop o).take n).toArray, ?_, .one (.agg ((hA.drop o).take n))⟩
    simp [part, run_isAgg ht, run_sizeOf ht, List.extract_toArray, List.extract_eq_take_drop]
  | false =>
    simp only [partP] at h
    cases hc : cs[o]? with
    | none => simp [hc] at h
    | some u =>
      simp only [hc, Option.some.injEq, Prod.mk.injEq, true_and] at h
      subst h
      obtain ⟨x, hx, hr⟩ := hA.get hc
      refine ⟨x, ?_, .ofRp hr⟩
      simp [part, run_isAgg ht, hx]

theorem run_partVM {t : TypeId} {agg : Bool} {n : Nat} (ht : shapeT P t = some (agg, n)) {cs : List C} {xs : List Value} (hA : F2 (fun c x => CR φ H F w c x ∧ Flat x) cs xs) {o : Nat} {p : Bool} {v : AV}
    (h : partM agg n cs o = some (p, v)) (hp : p = true) : ∃ xv, (part t xs.toArray o).run P w = .ok xv w ∧ AR φ H F w v xv := by
  subst hp
  cases agg with
  | true =>
    simp only [partM, Option.some.injEq, Prod.mk.injEq, decide_eq_true_eq] at h
    obtain ⟨hl, rfl⟩ := h
    refine ⟨.agg ((xs.drop o).take n).toArray, ?_, mkAgg_rel ((hA.drop o).take n)⟩
    simp [part, run_isAgg ht, run_sizeOf ht, List.extract_toArray, List.extract_eq_take_drop]
  | false =>
    simp only [partM] at h
    cases hc : cs[o]? with
    | none => simp [hc] at h
    | some u =>
      simp only [hc, Option.some.injEq, Prod.mk.injEq, true_and] at h
      subst h
      obtain ⟨x, hx, hr⟩ := hA.get hc
      refine ⟨x, ?_, .ofCR hr.1 hr.2⟩
      simp [part, run_isAgg ht, hx]

/-! ### '==' of structs and arrays -/

theorem eqCells_append {ks ls : List LK} {bs ds : List PV} : ∀ {as cs : List PV} {r : Bool}, as.length = ks.length → cs.length = ks.length → eqCells (ks ++ ls) (as ++ bs) (cs ++ ds) = some r →
    ∃ p q, eqCells ks as cs = some p ∧ eqCells ls bs ds = some q ∧ r = (p && q) := by
  induction ks with
  | nil =>
    intro as cs r h1 h2 h
    obtain rfl : as = [] := List.eq_nil_of_length_eq_zero (by simpa using h1)
    obtain rfl : cs = [] := List.eq_nil_of_length_eq_zero (by simpa using h2)
    exact ⟨true, r, rfl, by simpa using h, by simp⟩
  | cons k ks ih =>
    intro as cs r h1 h2 h
    cases as with
    | nil => simp at h1
    | cons a as =>
    cases cs with
    | nil => simp at h2
    | cons c cs =>
      have h1' : as.length = ks.length := by simpa using h1
      have h2' : cs.length = ks.length := by simpa using h2
      cases he : eqCells (ks ++ ls) (as ++ bs) (cs ++ ds) with
      | none => cases k <;> cases a <;> cases c <;> simp [eqCells, he] at h
      | some q0 =>
        obtain ⟨p, q, e1, e2, rfl⟩ := ih h1' h2' he
        cases k <;> cases a <;> cases c <;> simp only [List.cons_append, eqCells, he, reduceCtorEq] at h
        · rename_i k k1 m k2 n
          cases hk : decide (k1 = k) && decide (k2 = k) with
          | false => simp [hk] at h
          | true =>
            simp only [hk, Option.some.injEq] at h
            exact ⟨decide (m = n) && p, q, by simp [eqCells, hk, e1], e2, by rw [← h, Bool.and_assoc]⟩
        · rename_i m n
          simp only [Option.some.injEq] at h
          exact ⟨decide (m = n) && p, q, by simp [eqCells, e1], e2, by rw [← h, Bool.and_assoc]⟩
        · rename_i m n
          simp only [Option.some.injEq] at h
          exact ⟨decide (m = n) && p, q, by simp [eqCells, e1], e2, by rw [← h, Bool.and_assoc]⟩

theorem eqCells_len {ks : List LK} : ∀ {as bs : List PV} {r : Bool}, eqCells ks as bs = some r → as.length = ks.length ∧ bs.length = ks.length := by
  induction ks with
  | nil => intro as bs r h; cases as <;> cases bs <;> simp [eqCells] at h; simp
  | cons k ks ih =>
    intro as bs r h
    cases as with
    | nil => cases k <;> simp [eqCells] at h
    | cons a as =>
      cases bs with
      | nil => cases k <;> cases a <;> simp [eqCells] at h
      | cons b bs =>
        cases he : eqCells ks as bs with
        | none => cases k <;> cases a <;> cases b <;> simp [eqCells, he] at h
        | some q => have := ih he; simp; exact this

/-- The cells of a value of a type. -/
def ValOf (agg : Bool) (x : Value) (xs : List Value) : Prop := match agg with
  | true => x = .agg xs.toArray
  | false => xs = [x] ∧ Flat x

theorem run_part_val {t : TypeId} {agg : Bool} {n : Nat} (ht : shapeT P t = some (agg, n)) (hn : agg = false → n = 1) {xs : List Value} {o : Nat} (ho : o + n ≤ xs.length) (hf : ∀ x ∈ xs, Flat x) :
    ∃ x, (part t xs.toArray o).run P w = .ok x w ∧ ValOf agg x ((xs.drop o).take n) := by
  cases agg with
  | true =>
    exact ⟨.agg ((xs.drop o).take n).toArray, by simp [part, run_isAgg ht, run_sizeOf ht, List.extract_toArray, List.extract_eq_take_drop], rfl⟩
  | false =>
    obtain rfl := hn rfl
    have hlt : o < xs.length := by omega
    refine ⟨xs[o], by simp [part, run_isAgg ht, hlt], ?_, hf _ (List.getElem_mem hlt)⟩
    rw [List.drop_eq_getElem_cons hlt]
    rfl

theorem f2_flat {cs : List PV} {xs : List Value} (h : F2 (Rp F w) cs xs) : ∀ x ∈ xs, Flat x := by
  induction h with
  | nil => intro x hx; cases hx
  | cons h _ ih =>
    intro x hx
    rcases List.mem_cons.1 hx with rfl | hx
    · exact h.flat
    · exact ih x hx

/-- '==' at a type is as its cells are. -/
def EqAt (P : Program) (w : World) (t : TypeId) (d : Nat) (ks : List LK) : Prop :=
  ∃ (agg : Bool) (n : Nat), shapeT P t = some (agg, n) ∧ ks.length = n ∧ (agg = false → n = 1) ∧ ∀ {F : Cl} {as bs : List PV} {x y : Value} {xs ys : List Value} {r : Bool}, ValOf agg x xs → ValOf agg y ys → F2 (Rp F w) as xs → F2 (Rp F w) bs ys →
    eqCells ks as bs = some r → (Op.equalIn d t x y).run P w = .ok r w

theorem seg_split {α : Type} (l : List α) (o k : Nat) : l.drop o = (l.drop o).take k ++ l.drop (o + k) := by
  rw [← List.drop_drop, List.take_append_drop]

theorem kindsF_len {pe : TypeId → Option (List LK)} (hpe : ∀ t ks, pe t = some ks → ∃ a n, shapeT P t = some (a, n) ∧ ks.length = n) : ∀ (fs : List Field) (o n : Nat) (ks : List LK), kindsF P pe fs o n = some ks → o + ks.length = n
  | [], o, n, ks, h => by
    simp only [kindsF] at h
    cases he : o == n with
    | false => simp [he] at h
    | true => simp only [he, Option.some.injEq] at h; subst h; simpa using he
  | f :: fs, o, n, ks, h => by
    simp only [kindsF] at h
    split at h
    · rename_i l1 a1 k1 hb hp hs
      split at h
      · rename_i l2 hr
        simp only [Option.some.injEq] at h
        subst h
        have := kindsF_len hpe fs _ n _ hr
        obtain ⟨a, m, hs', hl⟩ := hpe _ _ hp
        rw [hs] at hs'
        simp only [Option.some.injEq, Prod.mk.injEq] at hs'
        simp; omega
      · cases h
    · cases h

theorem run_eqFields {d : Nat} {pe : TypeId → Option (List LK)} (hpe : ∀ t ks, pe t = some ks → EqAt P w t d ks) {as bs : List PV} {xs ys : List Value} (hx : F2 (Rp F w) as xs) (hy : F2 (Rp F w) bs ys) {n : Nat} (ha : as.length = n) (hb : bs.length = n) :
    ∀ (fs : List Field) (o : Nat) (r : Bool) (ks : List LK), kindsF P pe fs o n = some ks → eqCells ks (as.drop o) (bs.drop o) = some r → (Op.eqFields d xs.toArray ys.toArray fs).run P w = .ok r w
  | [], o, r, ks, ht, he => by
    simp only [kindsF] at ht
    cases ho : o == n with
    | false => simp [ho] at ht
    | true =>
      simp only [ho, Option.some.injEq] at ht
      have ho : o = n := by simpa using ho
      subst ht
      rw [List.drop_of_length_le (by omega), List.drop_of_length_le (by omega)] at he
      simp only [eqCells, Option.some.injEq] at he
      subst he
      rfl
  | f :: fs, o, r, ks, ht, he => by
    have hl := kindsF_len (fun t ks h => by obtain ⟨a, n, h1, h2, _⟩ := hpe t ks h; exact ⟨a, n, h1, h2⟩) (f :: fs) o n ks ht
    simp only [kindsF] at ht
    split at ht
    · rename_i l1 a1 k1 hc hp hs
      split at ht
      · rename_i l2 hr
        simp only [Option.some.injEq] at ht
        subst ht
        simp only [Bool.and_eq_true, bne_iff_ne, ne_eq, beq_iff_eq] at hc
        obtain ⟨h1, rfl⟩ := hc
        obtain ⟨agg, k, hs', hlen, hk1, heq⟩ := hpe _ _ hp
        rw [hs] at hs'
        simp only [Option.some.injEq, Prod.mk.injEq] at hs'
        obtain ⟨rfl, rfl⟩ := hs'
        simp only [List.length_append] at hl
        have hxl := hx.len
        have hyl := hy.len
        rw [seg_split as f.offset k1, seg_split bs f.offset k1] at he
        obtain ⟨p, q, e1, e2, rfl⟩ := eqCells_append (by simp; omega) (by simp; omega) he
        obtain ⟨x, hx1, hx2⟩ := run_part_val (w := w) hs hk1 (xs := xs) (o := f.offset) (by omega) (f2_flat hx)
        obtain ⟨y, hy1, hy2⟩ := run_part_val (w := w) hs hk1 (xs := ys) (o := f.offset) (by omega) (f2_flat hy)
        have hr' := heq hx2 hy2 ((hx.drop f.offset).take k1) ((hy.drop f.offset).take k1) e1
        have ih := run_eqFields hpe hx hy ha hb fs (f.offset + k1) q l2 hr e2
        simp only [Op.eqFields, ne_eq, h1, not_false_eq_true, if_true, Sem.run_bind, hx1, hy1, hr', Result.andThen_ok]
        cases p with
        | false => simp
        | true => simp [ih]
      · cases ht
    · cases ht

theorem repK_len {α : Type} (l : List α) (n : Nat) : (repK l n).length = n * l.length := by
  induction n with
  | zero => simp [repK]
  | succ n ih => simp [repK, ih, Nat.succ_mul]; omega

theorem run_eqItems {d : Nat} {e : TypeId} {ks : List LK} {agg : Bool} {m : Nat} (hs : shapeT P e = some (agg, m)) (hpe : EqAt P w e d ks) {as bs : List PV} {xs ys : List Value} (hx : F2 (Rp F w) as xs) (hy : F2 (Rp F w) bs ys) :
    ∀ (n k : Nat) (r : Bool), as.length = (k + n) * m → bs.length = (k + n) * m → eqCells (repK ks n) (as.drop (k * m)) (bs.drop (k * m)) = some r →
      (Op.eqItems d e m xs.toArray ys.toArray (List.range' k n)).run P w = .ok r w
  | 0, k, r, ha, hb, he => by
    rw [List.drop_of_length_le (by simp [ha]), List.drop_of_length_le (by simp [hb])] at he
    simp only [repK, eqCells, Option.some.injEq] at he
    subst he
    rfl
  | n + 1, k, r, ha, hb, he => by
    have hpe' := hpe
    obtain ⟨agg', m', hs', hlen, hk1, heq⟩ := hpe'
    rw [hs] at hs'
    simp only [Option.some.injEq, Prod.mk.injEq] at hs'
    obtain ⟨rfl, rfl⟩ := hs'
    have e1 : (k + (n + 1)) * m = k * m + m + n * m := by rw [Nat.add_mul, Nat.succ_mul]; omega
    have hxl := hx.len
    have hyl := hy.len
    rw [seg_split as (k * m) m, seg_split bs (k * m) m] at he
    obtain ⟨p, q, h1, h2, rfl⟩ := eqCells_append (by simp; omega) (by simp; omega) he
    obtain ⟨x, hx1, hx2⟩ := run_part_val (w := w) hs hk1 (xs := xs) (o := k * m) (by omega) (f2_flat hx)
    obtain ⟨y, hy1, hy2⟩ := run_part_val (w := w) hs hk1 (xs := ys) (o := k * m) (by omega) (f2_flat hy)
    have hr := heq hx2 hy2 ((hx.drop (k * m)).take m) ((hy.drop (k * m)).take m) h1
    have ih := run_eqItems hs hpe hx hy n (k + 1) q (by rw [ha]; congr 1; omega) (by rw [hb]; congr 1; omega) (by rw [Nat.succ_mul]; exact h2)
    simp only [List.range'_succ, Op.eqItems, Sem.run_bind, hx1, hy1, hr, Result.andThen_ok]
    cases p with
    | false => simp
    | true => simpa using ih
end
end Go.Ab

namespace Go.Ab
open Go

section
variable {P : Program} {G : Gl} {φ : Pl} {H : Hp} {F : Cl} {w : World}

theorem eqAt_of_kinds : ∀ (d j : Nat) (t : TypeId) (ks : List LK), kindsT P d t = some ks → EqAt P w t (d + j) ks
  | 0, _, _, _, h => by simp [kindsT] at h
  | d + 1, j, t, ks, h => by
    have hd : d + 1 + j = (d + j) + 1 := by omega
    rw [hd]
    unfold kindsT at h
    split at h
    · rename_i agg hu hs
      simp only [Option.some.injEq] at h
      subst h
      obtain ⟨i, u, hi, hu', hn, hagg⟩ := shapeT_spec hs
      rw [hu] at hu'; cases hu'
      refine ⟨agg, 1, hs, rfl, fun _ => rfl, fun {F as bs x y xs ys r} hx hy h1 h2 he => ?_⟩
      subst hagg
      obtain ⟨rfl, hfx⟩ := hx
      obtain ⟨rfl, hfy⟩ := hy
      clear hfx hfy
      cases h1 with | cons ha hat => cases hat with | nil => cases h2 with | cons hb hbt => cases hbt with | nil =>
      cases ha <;> cases hb <;> simp only [eqCells, reduceCtorEq, Option.some.injEq, Bool.and_true] at he
      subst he
      rename_i a b
      simp [Op.equalIn, run_underlying hu]
      cases a <;> cases b <;> rfl
    · rename_i k agg hu hs
      simp only [Option.some.injEq] at h
      subst h
      obtain ⟨i, u, hi, hu', hn, hagg⟩ := shapeT_spec hs
      rw [hu] at hu'; cases hu'
      refine ⟨agg, 1, hs, rfl, fun _ => rfl, fun {F as bs x y xs ys r} hx hy h1 h2 he => ?_⟩
      subst hagg
      obtain ⟨rfl, hfx⟩ := hx
      obtain ⟨rfl, hfy⟩ := hy
      clear hfx hfy
      cases h1 with | cons ha hat => cases hat with | nil => cases h2 with | cons hb hbt => cases hbt with | nil =>
      cases ha <;> cases hb <;> simp only [eqCells, reduceCtorEq] at he
      rename_i k1 a k2 b
      cases hk : decide (k1 = k) && decide (k2 = k) with
      | false => simp [hk] at he
      | true =>
        simp only [hk, Option.some.injEq, Bool.and_true] at he
        simp only [Bool.and_eq_true, decide_eq_true_eq] at hk
        obtain ⟨rfl, rfl⟩ := hk
        rw [run_equalIn_int w (d + j) t k2 k2 a b hu, ← he]
        rfl
    · rename_i agg hu hs
      simp only [Option.some.injEq] at h
      subst h
      obtain ⟨i, u, hi, hu', hn, hagg⟩ := shapeT_spec hs
      rw [hu] at hu'; cases hu'
      refine ⟨agg, 1, hs, rfl, fun _ => rfl, fun {F as bs x y xs ys r} hx hy h1 h2 he => ?_⟩
      subst hagg
      obtain ⟨rfl, hfx⟩ := hx
      obtain ⟨rfl, hfy⟩ := hy
      clear hfx hfy
      cases h1 with | cons ha hat => cases hat with | nil => cases h2 with | cons hb hbt => cases hbt with | nil =>
      cases ha <;> cases hb <;> simp only [eqCells, reduceCtorEq, Option.some.injEq, Bool.and_true] at he
      subst he
      rename_i a b
      rw [run_equalIn_string w (d + j) t a b hu, ByteArray.toList_eq, ByteArray.toList_eq]
      congr 1
      by_cases h : a.data.toList = b.data.toList
      · simp [h]
      · have h' : ¬ a.data = b.data := fun e => h (by rw [e])
        simp [h']
    · rename_i fs agg n hu hs
      split at h
      · rename_i h1
        obtain ⟨i, u, hi, hu', hn, hagg⟩ := shapeT_spec hs
        rw [hu] at hu'; cases hu'
        subst hagg
        have hl := kindsF_len (P := P) (fun t ks h => by obtain ⟨a, n, h1, h2, _⟩ := eqAt_of_kinds d j t ks h; exact ⟨a, n, h1, h2⟩) fs.toList 0 n ks h
        refine ⟨true, n, hs, by omega, (fun h => by cases h), fun {F as bs x y xs ys r} hx hy p1 p2 he => ?_⟩
        simp only [ValOf] at hx hy
        subst hx; subst hy
        have hlen := eqCells_len he
        have hf : P.fieldsOf t = fs := by simp [Program.fieldsOf, hu]
        rw [run_equalIn_struct w (d + j) t _ _ (by rw [hf]; exact hu) h1, hf]
        exact run_eqFields (fun t ks ht => eqAt_of_kinds d j t ks ht) p1 p2 (n := n) (by omega) (by omega) fs.toList 0 r ks h (by simpa using he)
      · cases h
    · rename_i k e agg n hu hs
      split at h
      · rename_i ks' ae m hk hse
        split at h
        · rename_i h2
          simp only [Option.some.injEq] at h
          subst h
          simp only [beq_iff_eq] at h2
          subst h2
          obtain ⟨i, u, hi, hu', hn, hagg⟩ := shapeT_spec hs
          rw [hu] at hu'; cases hu'
          subst hagg
          have hE := eqAt_of_kinds d j e ks' hk
          have hE' := hE
          obtain ⟨ae', m', hse', hlen, _⟩ := hE'
          rw [hse] at hse'
          simp only [Option.some.injEq, Prod.mk.injEq] at hse'
          obtain ⟨rfl, rfl⟩ := hse'
          refine ⟨true, k * m, hs, by rw [repK_len, hlen], (fun h => by cases h), fun {F as bs x y xs ys r} hx hy p1 p2 he => ?_⟩
          simp only [ValOf] at hx hy
          subst hx; subst hy
          have hl := eqCells_len he
          rw [repK_len, hlen] at hl
          obtain ⟨ie, _, hie, _, hme, _⟩ := shapeT_spec hse
          have hc : P.cellsOf e = m := by simp [Program.cellsOf, hie, hme]
          rw [run_equalIn_array w (d + j) _ _ hu hie, hc, List.range_eq_range']
          exact run_eqItems hse hE p1 p2 k 0 r (by rw [Nat.zero_add]; exact hl.1) (by rw [Nat.zero_add]; exact hl.2) (by simpa using he)
        · cases h
      · cases h
    · cases h
end
end Go.Ab

namespace Go.Ab
open Go

section
variable {P : Program} {G : Gl} {φ : Pl} {H : Hp} {F : Cl} {w : World}

/-- The elements of an owner's block. -/
theorem BR.slAt {id : Id} {sz : Nat} {es : List (List PV)} (h : BR φ H F w id (.arr sz true es)) {n : Nat} {x : Value} (hx : OsV φ w id sz n x) (hn : n = es.length) : ∃ a cap, x = .slice a n cap ∧ n ≤ cap ∧ SlAt F w es a := by
  obtain ⟨h0, h1, h2⟩ := h
  rcases hx with ⟨h3, a, rfl⟩ | ⟨r, cap, e, k, hφ, rfl, hc, _, _, _⟩
  · subst hn
    exact ⟨a, 0, by rw [h3], by omega, .inl (List.eq_nil_of_length_eq_zero h3)⟩
  · refine ⟨_, cap, rfl, hc, .inr ⟨r, 0, sz, rfl, h0, fun i q hq => ⟨h1 i q hq, fun j u hj => ?_⟩⟩⟩
    have hi : i < es.length := (List.getElem?_eq_some_iff.1 hq).1
    rcases h2 with ⟨h3, _⟩ | ⟨r', c, h3, ⟨e', h4⟩, _, _, _, h7, h8⟩
    · rw [hφ] at h3; cases h3
    · obtain rfl : r' = r := by rw [hφ] at h3; exact (Option.some.inj h3).symm
      obtain ⟨x, hx, hr⟩ := h8 i q j u hq hj
      have hjs : j < sz := by have := (List.getElem?_eq_some_iff.1 hj).1; rw [h1 i q hq] at this; exact this
      have hb : i * sz + sz ≤ es.length * sz := by
        have : (i + 1) * sz ≤ es.length * sz := Nat.mul_le_mul_right sz hi
        rwa [Nat.succ_mul] at this
      rw [Nat.zero_add]
      exact ⟨h7 rfl _ (by omega), x, by simp [World.cell?, h4, hx], hr⟩

/-- What an owner has put in stays from now on. -/
theorem freeze_arr (hS : SRel G φ H F w) {id : Id} {sz : Nat} {fz : Bool} {es : List (List PV)} (hg : H.get id = some (.arr sz fz es)) :
    ∃ F', Evo φ H F w φ (H.set id (.arr sz true es)) F' w ∧ SRel G φ (H.set id (.arr sz true es)) F' w := by
  have hbe : BE φ φ id (.arr sz fz es) (.arr sz true es) := by simp [BE]
  have hB := hS.blk id _ hg
  have hbe' : ∀ id' c, H.get id' = some c → ∃ b', (H.set id (.arr sz true es)).get id' = some b' ∧ BE φ φ id' c b' := fun id' c hc => by
    by_cases h : id' = id
    · subst h; rw [hg] at hc; cases hc; exact ⟨_, Hp.get_set_self hg, hbe⟩
    · exact ⟨c, by rw [Hp.get_set_other h]; exact hc, BE.refl φ id' c⟩
  have hpar : (H.set id (.arr sz true es)).par.length = H.par.length := by cases id <;> simp [Hp.set]
  have hhas : ∀ i r, φ i = some r → ((H.set id (.arr sz true es)).get i).isSome := fun i r h => by
    obtain ⟨c, hc⟩ := Option.isSome_iff_exists.1 (hS.has i r h)
    obtain ⟨c', hc', _⟩ := hbe' i c hc
    simp [hc']
  obtain ⟨h0, h1, h2⟩ := hB
  rcases h2 with ⟨h3, h4⟩ | ⟨r, c, h3, ⟨e, h4⟩, h5, h6, h7, h8, h9⟩
  · have E : Evo φ H F w φ (H.set id (.arr sz true es)) F w := { Evo.refl φ H F w with be := hbe', npar := hpar }
    refine ⟨F, E, ⟨hS.inj, hS.dom, hhas, fun id' c hc => ?_, hS.glob, hS.fin⟩⟩
    by_cases h : id' = id
    · subst h; rw [Hp.get_set_self hg] at hc; cases hc; exact ⟨h0, h1, .inl ⟨h3, h4⟩⟩
    · rw [Hp.get_set_other h] at hc; exact BR.evo E rfl (fun _ _ => rfl) (fun _ _ _ => Iff.rfl) (hS.blk id' c hc)
  · let F' : Cl := fun b o => F b o ∨ (b = r ∧ o < es.length * sz)
    have E : Evo φ H F w φ (H.set id (.arr sz true es)) F' w :=
      { Evo.refl φ H F w with
        be := hbe'
        npar := hpar
        kp := ⟨fun b o f => .inl f, fun _ _ _ => rfl⟩
        newF := fun b o f => by
          rcases f with f | ⟨rfl, _⟩
          · exact .inl f
          · exact .inr (.inl ⟨id, h3⟩) }
    refine ⟨F', E, ⟨hS.inj, hS.dom, hhas, fun id' c' hc => ?_, fun g cs h => (hS.glob g cs h).keeps E.kp, fun b o f => ?_⟩⟩
    · by_cases h : id' = id
      · subst h
        rw [Hp.get_set_self hg] at hc
        cases hc
        refine ⟨h0, h1, .inr ⟨r, c, h3, ⟨e, h4⟩, h5, h6, fun o f => ⟨rfl, ?_⟩, fun _ o ho => .inr ⟨rfl, ho⟩, fun i q j u hq hu => ?_⟩⟩
        · rcases f with f | ⟨_, f⟩
          · exact (h7 o f).2
          · exact f
        · obtain ⟨x, hx, hr⟩ := h9 i q j u hq hu
          exact ⟨x, hx, hr.keeps E.kp⟩
      · rw [Hp.get_set_other h] at hc
        refine BR.evo E rfl (fun _ _ => rfl) (fun r' o hr' => ⟨fun f => ?_, fun f => .inl f⟩) (hS.blk id' c' hc)
        rcases f with f | ⟨rfl, _⟩
        · exact f
        · exact absurd (hS.inj id' id _ hr' h3) h
    · rcases f with f | ⟨rfl, _⟩
      · exact hS.fin b o f
      · exact hS.dom id b h3

theorem freezeC_run (hS : SRel G φ H F w) {c c' : C} {H' : Hp} {p : Bool} {x : Value} (hc : CR φ H F w c x) (h : freezeC H c = some (p, c', H')) (hp : p = true) :
    ∃ F', Evo φ H F w φ H' F' w ∧ SRel G φ H' F' w ∧ CR φ H' F' w c' x := by
  subst hp
  cases c <;> simp only [freezeC] at h
  case os id n =>
    obtain ⟨sz, fz, es, hg, hn, hv⟩ := hc
    simp only [hg, Option.some.injEq, Prod.mk.injEq, decide_eq_true_eq] at h
    obtain ⟨h1, rfl, rfl⟩ := h
    obtain ⟨F', E, S⟩ := freeze_arr hS hg
    refine ⟨F', E, S, ?_⟩
    obtain ⟨a, cap, rfl, hc, hs⟩ := (S.blk id _ (Hp.get_set_self hg)).slAt (hv h1) h1
    exact Rp.of_slAt hs h1 hc
  case nils =>
    simp only [Option.some.injEq, Prod.mk.injEq, true_and] at h
    obtain ⟨rfl, rfl⟩ := h
    have hc : x = .slice none 0 0 := hc
    subst hc
    exact ⟨F, Evo.refl φ H F w, hS, Rp.sl0 _ _⟩
  case ti es =>
    simp only [Option.some.injEq, Prod.mk.injEq, true_and] at h
    obtain ⟨rfl, rfl⟩ := h
    obtain ⟨a, rfl, hs⟩ := hc
    exact ⟨F, Evo.refl φ H F w, hS, Rp.of_slAt hs rfl (Nat.le_refl _)⟩
  case fn g caps =>
    obtain ⟨cv, rfl, hcv⟩ := hc
    cases hcv with
    | nil =>
      simp only [Option.some.injEq, Prod.mk.injEq, true_and] at h
      obtain ⟨rfl, rfl⟩ := h
      exact ⟨F, Evo.refl φ H F w, hS, Rp.fn g [] [] rfl (fun i f v h => by simp at h) (fun i f v j c x h => by simp at h)⟩
    | cons h1 h2 =>
      simp only [Option.some.injEq, Prod.mk.injEq, true_and] at h
      obtain ⟨rfl, rfl⟩ := h
      exact ⟨F, Evo.refl φ H F w, hS, _, rfl, .cons h1 h2⟩
  all_goals
    simp only [Option.some.injEq, Prod.mk.injEq, true_and] at h
    obtain ⟨rfl, rfl⟩ := h
    exact ⟨F, Evo.refl φ H F w, hS, hc⟩

theorem freezeCs_run : ∀ {cs cs' : List C} {H H' : Hp} {F : Cl} {p : Bool} {xs : List Value}, SRel G φ H F w → F2 (fun c x => CR φ H F w c x ∧ Flat x) cs xs → freezeCs H cs = some (p, cs', H') → p = true →
    ∃ F', Evo φ H F w φ H' F' w ∧ SRel G φ H' F' w ∧ F2 (fun c x => CR φ H' F' w c x ∧ Flat x) cs' xs
  | [], cs', H, H', F, p, xs, hS, hc, h, hp => by
    simp only [freezeCs, Option.some.injEq, Prod.mk.injEq] at h
    obtain ⟨_, rfl, rfl⟩ := h
    cases hc
    exact ⟨F, Evo.refl φ H F w, hS, .nil⟩
  | c :: cs, cs', H, H', F, p, _, hS, .cons hc ht, h, hp => by
    simp only [freezeCs] at h
    split at h
    · rename_i b1 c1 H1 h1
      split at h
      · rename_i b2 r2 H2 h2
        simp only [Option.some.injEq, Prod.mk.injEq] at h
        obtain ⟨rfl, rfl, rfl⟩ := h
        simp only [Bool.and_eq_true] at hp
        obtain ⟨F1, E1, S1, C1⟩ := freezeC_run hS hc.1 h1 hp.1
        obtain ⟨F2', E2, S2, C2⟩ := freezeCs_run S1 (ht.imp fun _ _ q => ⟨q.1.evo E1, q.2⟩) h2 hp.2
        exact ⟨F2', E1.trans E2, S2, .cons ⟨C1.evo E2, hc.2⟩ C2⟩
      · cases h
    · cases h

theorem freezeA_run (hS : SRel G φ H F w) {a a' : AV} {H' : Hp} {p : Bool} {x : Value} (ha : AR φ H F w a x) (h : freezeA H a = some (p, a', H')) (hp : p = true) :
    ∃ F', Evo φ H F w φ H' F' w ∧ SRel G φ H' F' w ∧ AR φ H' F' w a' x := by
  cases a with
  | un => simp [freezeA] at h
  | c c =>
    simp only [freezeA] at h
    split at h
    · rename_i b1 c1 H1 h1
      simp only [Option.some.injEq, Prod.mk.injEq] at h
      obtain ⟨rfl, rfl, rfl⟩ := h
      obtain ⟨F1, E1, S1, C1⟩ := freezeC_run hS ha.cc.1 h1 hp
      exact ⟨F1, E1, S1, .ofCR C1 ha.cc.2⟩
    · cases h
  | agg cs =>
    simp only [freezeA, Option.some.injEq, Prod.mk.injEq] at h
    obtain ⟨_, rfl, rfl⟩ := h
    exact ⟨F, Evo.refl φ H F w, hS, ha⟩
  | mg cs =>
    simp only [freezeA] at h
    split at h
    · rename_i b1 c1 H1 h1
      simp only [Option.some.injEq, Prod.mk.injEq] at h
      obtain ⟨rfl, rfl, rfl⟩ := h
      obtain ⟨xs, rfl, hx⟩ := ha.mix
      obtain ⟨F1, E1, S1, C1⟩ := freezeCs_run hS hx h1 hp
      exact ⟨F1, E1, S1, mkAgg_rel C1⟩
    · cases h
  | tup vs => simp [freezeA] at h

theorem freezeAs_run : ∀ {as as' : List AV} {H H' : Hp} {F : Cl} {p : Bool} {xs : List Value}, SRel G φ H F w → F2 (AR φ H F w) as xs → freezeAs H as = some (p, as', H') → p = true →
    ∃ F', Evo φ H F w φ H' F' w ∧ SRel G φ H' F' w ∧ F2 (AR φ H' F' w) as' xs
  | [], cs', H, H', F, p, xs, hS, hc, h, hp => by
    simp only [freezeAs, Option.some.injEq, Prod.mk.injEq] at h
    obtain ⟨_, rfl, rfl⟩ := h
    cases hc
    exact ⟨F, Evo.refl φ H F w, hS, .nil⟩
  | c :: cs, cs', H, H', F, p, _, hS, .cons hc ht, h, hp => by
    simp only [freezeAs] at h
    split at h
    · rename_i b1 c1 H1 h1
      split at h
      · rename_i b2 r2 H2 h2
        simp only [Option.some.injEq, Prod.mk.injEq] at h
        obtain ⟨rfl, rfl, rfl⟩ := h
        simp only [Bool.and_eq_true] at hp
        obtain ⟨F1, E1, S1, C1⟩ := freezeA_run hS hc h1 hp.1
        obtain ⟨F2', E2, S2, C2⟩ := freezeAs_run S1 (ht.imp fun _ _ q => q.evo E1) h2 hp.2
        exact ⟨F2', E1.trans E2, S2, .cons (C1.evo E2) C2⟩
      · cases h
    · cases h

theorem pureA_rel {a : AV} {x : Value} (ha : AR φ H F w a x) {ps : List PV} (h : pureA a = some ps) : F2 (Rp F w) ps x.cells.toList := by
  cases a with
  | c c =>
    cases c <;> simp only [pureA, Option.some.injEq, reduceCtorEq] at h
    subst h
    have := ha.cells (us := [.p _]) rfl
    exact (F2.mapl (f := C.p) (as := [_])).1 this |>.imp fun _ _ q => q.1
  | agg cs =>
    simp only [pureA, Option.some.injEq] at h
    subst h
    have := ha.cells (us := cs.map .p) rfl
    exact (F2.mapl.1 this).imp fun _ _ q => q.1
  | _ => simp [pureA] at h

/-- New frozen cells: a literal's, a conversion's. -/
theorem snd_frozen (hS : SRel G φ H F w) {w' : World} {xs : List Value} {e : TypeId} {fr : Nat × Nat} (hG : Grown w w' (.cells xs.toArray e fr)) :
    let F' : Cl := fun b o => F b o ∨ b = w.heap.size
    Evo φ H F w φ H F' w' ∧ SRel G φ H F' w' := by
  intro F'
  have E : Evo φ H F w φ H F' w' :=
    { os := hG.os, tape := hG.tape, output := hG.output, size := by rw [hG.size]; omega
      keep := fun r hr _ => hG.old hr
      kp := ⟨fun _ _ f => .inl f, fun b o f => cell_of_heap (hG.old (hS.fin b o f))⟩
      newF := fun b o f => by
        rcases f with f | f
        · exact .inl f
        · exact .inr (.inr (by omega))
      new := fun _ _ h => .inl h
      be := fun id b h => ⟨b, h, BE.refl φ id b⟩
      shp := fun r hr => shape_of_heap (hG.old hr)
      npar := rfl }
  refine ⟨E, ⟨hS.inj, fun i r h => by rw [hG.size]; have := hS.dom i r h; omega, hS.has, fun id b h => ?_, fun g cs h => (hS.glob g cs h).keeps E.kp, fun b o f => ?_⟩⟩
  · refine BR.evo E rfl (fun r hr => hG.old (hS.dom id r hr)) (fun r o hr => ⟨fun f => ?_, fun f => .inl f⟩) (hS.blk id b h)
    rcases f with f | f
    · exact f
    · have := hS.dom id r hr; omega
  · rw [hG.size]
    rcases f with f | f
    · have := hS.fin b o f; omega
    · omega
end
end Go.Ab
