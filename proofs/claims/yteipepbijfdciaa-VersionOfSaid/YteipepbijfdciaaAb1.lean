/- The abstract evaluator: pure values, local blocks, and what a Go function's operations do to them. No condition. -/
import Derived.Calls
set_option linter.unusedSimpArgs false
set_option linter.unusedVariables false
namespace Go.Ab
open Go

inductive PV where
  | int (k : IntKind) (n : Int)
  | bool (b : Bool)
  | str (s : List UInt8)
  | sl (es : List (List PV))
  deriving Inhabited

inductive Id where
  | par (n : Nat)
  | loc (n : Nat)
  deriving DecidableEq, Inhabited

inductive C where
  | p (v : PV)
  | ptr (id : Id) (o : Nat)
  | ap (id : Id) (n i o : Nat)
  | rp (cs : List PV)
  | nilp
  | os (id : Id) (n : Nat)
  | nils
  | ti (es : List (List PV))
  | fn (g : FuncId) (caps : List Id)
  | nilf
  deriving Inhabited

inductive AV where
  | un
  | c (c : C)
  | agg (cs : List PV)
  | mg (cs : List C)
  | tup (vs : List AV)
  deriving Inhabited

inductive Blk where
  | row (cs : List PV)
  | mrow (cs : List C)
  | arr (sz : Nat) (fz : Bool) (es : List (List PV))
  | hole
  deriving Inhabited

structure Hp where
  par : List Blk
  loc : List Blk
  deriving Inhabited

def Hp.get (H : Hp) : Id → Option Blk
  | .par n => H.par[n]?
  | .loc n => H.loc[n]?

def Hp.set (H : Hp) (id : Id) (b : Blk) : Hp :=
  match id with
  | .par n => { H with par := H.par.set n b }
  | .loc n => { H with loc := H.loc.set n b }

def Hp.add (H : Hp) (b : Blk) : Hp := { H with loc := H.loc ++ [b] }
def Hp.nid (H : Hp) : Id := .loc H.loc.length

abbrev Tm := List (Nat × AV)

def Tm.get : Tm → Nat → AV
  | [], _ => .un
  | (u, v) :: r, t => match Nat.beq u t with
    | true => v
    | false => Tm.get r t

def Tm.put (T : Tm) (t : Option Nat) (v : AV) : Tm :=
  match t with
  | some t => (t, v) :: T
  | none => T

/-- What the package level variables hold. -/
abbrev Gl := Nat → Option (List PV)

/-- A constant of the code. -/
def constC : Value → Option C
  | .int k n => some (.p (.int k n))
  | .bool b => some (.p (.bool b))
  | .string s => some (.p (.str s.data.toList))
  | .pointer none => some .nilp
  | .slice none 0 0 => some .nils
  | .nilFunc => some .nilf
  | _ => none

def allPure : List C → Option (List PV)
  | [] => some []
  | .p v :: r => match allPure r with
    | some l => some (v :: l)
    | none => none
  | _ => none

/-- An aggregate of cells: pure where all cells are. -/
def mkAgg (cs : List C) : AV := match allPure cs with | some ps => .agg ps | none => .mg cs

def constCs : List Value → Option (List C)
  | [] => some []
  | v :: r => match constC v, constCs r with
    | some c, some cs => some (c :: cs)
    | _, _ => none

def constA : Value → Option AV
  | .agg cs => match constCs cs.toList with | some l => some (mkAgg l) | none => none
  | v => match constC v with | some c => some (.c c) | none => none

/-- An operand. -/
inductive SA where
  | t (t : Nat)
  | v (v : AV)
  | g (g : Nat)
  deriving Inhabited

def compA : Operand → Option SA
  | .tmp t => some (.t t)
  | .const c => match constA c with | some v => some (.v v) | none => none
  | .global g => some (.g g)
  | .func f => some (.v (.c (.fn f [])))

def evS (G : Gl) (T : Tm) : SA → AV
  | .t t => T.get t
  | .v v => v
  | .g g => match G g with | some cs => .c (.rp cs) | none => .un

/-- The cells of a value. -/
def cellsA : AV → Option (List C)
  | .c c => some [c]
  | .agg cs => some (cs.map .p)
  | .mg cs => some cs
  | _ => none

def mkRow : AV → Option Blk
  | .c (.p v) => some (.row [v])
  | .c c => some (.mrow [c])
  | .agg cs => some (.row cs)
  | .mg cs => some (.mrow cs)
  | _ => none

/-- A type as memory sees it: is it a struct or an array, how many cells has it. -/
def shapeT (P : Program) (t : TypeId) : Option (Bool × Nat) :=
  match P.info? t, P.underlying t with
  | some i, some (.struct _) => some (true, i.size)
  | some i, some (.array _ _) => some (true, i.size)
  | some i, some _ => some (false, i.size)
  | _, _ => none

structure Res where
  pre : Bool
  v : AV
  h : Hp

def ret (v : AV) (h : Hp) : Option Res := some ⟨true, v, h⟩

def partP (agg : Bool) (n : Nat) (cs : List PV) (o : Nat) : Option (Bool × AV) :=
  match agg with
  | true => some (decide (o + n ≤ cs.length), .agg ((cs.drop o).take n))
  | false => match cs[o]? with
    | some v => some (true, .c (.p v))
    | none => none

def partM (agg : Bool) (n : Nat) (cs : List C) (o : Nat) : Option (Bool × AV) :=
  match agg with
  | true => some (decide (o + n ≤ cs.length), mkAgg ((cs.drop o).take n))
  | false => match cs[o]? with
    | some v => some (true, .c v)
    | none => none

def resOf (h : Hp) : Option (Bool × AV) → Option Res
  | some (b, v) => some ⟨b, v, h⟩
  | none => none

def loadS (agg : Bool) (n : Nat) (a : AV) (H : Hp) : Option Res :=
  match a with
  | .c (.rp cs) => resOf H (partP agg n cs 0)
  | .c (.ptr id o) => match H.get id with
    | some (.row cs) => resOf H (partP agg n cs o)
    | some (.mrow cs) => resOf H (partM agg n cs o)
    | _ => none
  | .c (.ap id m i o) => match H.get id with
    | some (.arr _ _ es) => match es[i]? with
      | some cs => match partP agg n cs o with
        | some (b, v) => some ⟨b && decide (m = es.length), v, H⟩
        | none => none
      | none => none
    | _ => none
  | _ => none

def putAt {α : Type} (cs : List α) (o : Nat) (vs : List α) : List α := cs.take o ++ vs ++ cs.drop (o + vs.length)

def storeS (n : Nat) (a v : AV) (H : Hp) : Option Res :=
  match a with
  | .c (.ptr id o) => match H.get id, v with
    | some (.row cs), .c (.p u) => some ⟨decide (n = 1 ∧ o + 1 ≤ cs.length), .tup [], H.set id (.row (putAt cs o [u]))⟩
    | some (.row cs), .agg us => some ⟨decide (n = us.length ∧ o + us.length ≤ cs.length), .tup [], H.set id (.row (putAt cs o us))⟩
    | some (.row cs), .c u => some ⟨decide (n = 1 ∧ o + 1 ≤ cs.length), .tup [], H.set id (.mrow (putAt (cs.map .p) o [u]))⟩
    | some (.row cs), .mg us => some ⟨decide (n = us.length ∧ o + us.length ≤ cs.length), .tup [], H.set id (.mrow (putAt (cs.map .p) o us))⟩
    | some (.mrow cs), .c u => some ⟨decide (n = 1 ∧ o + 1 ≤ cs.length), .tup [], H.set id (.mrow (putAt cs o [u]))⟩
    | some (.mrow cs), .agg us => some ⟨decide (n = us.length ∧ o + us.length ≤ cs.length), .tup [], H.set id (.mrow (putAt cs o (us.map .p)))⟩
    | some (.mrow cs), .mg us => some ⟨decide (n = us.length ∧ o + us.length ≤ cs.length), .tup [], H.set id (.mrow (putAt cs o us))⟩
    | _, _ => none
  | .c (.ap id m i o) => match H.get id, v with
    | some (.arr sz false es), .c (.p u) => match es[i]? with
      | some cs => some ⟨decide (n = 1 ∧ o + 1 ≤ cs.length ∧ m = es.length), .tup [], H.set id (.arr sz false (es.set i (putAt cs o [u])))⟩
      | none => none
    | some (.arr sz false es), .agg us => match es[i]? with
      | some cs => some ⟨decide (n = us.length ∧ o + us.length ≤ cs.length ∧ m = es.length), .tup [], H.set id (.arr sz false (es.set i (putAt cs o us)))⟩
      | none => none
    | _, _ => none
  | _ => none

/-- What an integer operator gives, and under which condition. -/
def bitsA (op : BinOp) (k : IntKind) (x y : Int) : Option Int :=
  match op with
  | .and => some (k.wrap (BitVec.ofInt k.bits x &&& BitVec.ofInt k.bits y).toNat)
  | .or => some (k.wrap (BitVec.ofInt k.bits x ||| BitVec.ofInt k.bits y).toNat)
  | .xor => some (k.wrap (BitVec.ofInt k.bits x ^^^ BitVec.ofInt k.bits y).toNat)
  | .andNot => some (k.wrap (BitVec.ofInt k.bits x &&& ~~~BitVec.ofInt k.bits y).toNat)
  | _ => none

def intA (op : BinOp) (k : IntKind) (x y : Int) : Option (Bool × PV) :=
  match op with
  | .add => some (true, .int k (k.wrap (x + y)))
  | .sub => some (true, .int k (k.wrap (x - y)))
  | .mul => some (true, .int k (k.wrap (x * y)))
  | .quo => some (!decide (y = 0), .int k (k.wrap (x.tdiv y)))
  | .rem => some (!decide (y = 0), .int k (x.tmod y))
  | .and => some (true, .int k (k.wrap (BitVec.ofInt k.bits x &&& BitVec.ofInt k.bits y).toNat))
  | .or => some (true, .int k (k.wrap (BitVec.ofInt k.bits x ||| BitVec.ofInt k.bits y).toNat))
  | .xor => some (true, .int k (k.wrap (BitVec.ofInt k.bits x ^^^ BitVec.ofInt k.bits y).toNat))
  | .andNot => some (true, .int k (k.wrap (BitVec.ofInt k.bits x &&& ~~~BitVec.ofInt k.bits y).toNat))
  | .eql => some (true, .bool (decide (x = y)))
  | .neq => some (true, .bool (!decide (x = y)))
  | .lss => some (true, .bool (decide (x < y)))
  | .leq => some (true, .bool (decide (x ≤ y)))
  | .gtr => some (true, .bool (decide (x > y)))
  | .geq => some (true, .bool (decide (x ≥ y)))
  | _ => none

def shiftA (op : BinOp) (k : IntKind) (x y : Int) : Option (Bool × PV) :=
  match op with
  | .shl => some (decide (0 ≤ y), .int k (k.wrap (x * 2 ^ (min y.toNat k.bits))))
  | .shr => some (decide (0 ≤ y), .int k (x.fdiv (2 ^ (min y.toNat k.bits))))
  | _ => none

/-- The kinds of cells that '==' compares. -/
inductive LK where
  | int (k : IntKind)
  | bool
  | str
  deriving DecidableEq, Inhabited

/-- Are cells equal? -/
def eqCells : List LK → List PV → List PV → Option Bool
  | [], [], [] => some true
  | .int k :: ks, .int k1 a :: r, .int k2 b :: s => match decide (k1 = k) && decide (k2 = k), eqCells ks r s with
    | true, some q => some (decide (a = b) && q)
    | _, _ => none
  | .bool :: ks, .bool a :: r, .bool b :: s => match eqCells ks r s with
    | some q => some (decide (a = b) && q)
    | none => none
  | .str :: ks, .str a :: r, .str b :: s => match eqCells ks r s with
    | some q => some (decide (a = b) && q)
    | none => none
  | _, _, _ => none

/-- The kinds of a struct's cells, where its fields lie side by side and fill it. -/
def kindsF (P : Program) (pe : TypeId → Option (List LK)) : List Field → Nat → Nat → Option (List LK)
  | [], o, n => match o == n with
    | true => some []
    | false => none
  | f :: fs, o, n => match f.name != "_" && f.offset == o, pe f.type, shapeT P f.type with
    | true, some ks, some (_, k) => match kindsF P pe fs (o + k) n with
      | some r => some (ks ++ r)
      | none => none
    | _, _, _ => none

def repK {α : Type} (l : List α) : Nat → List α
  | 0 => []
  | n + 1 => l ++ repK l n

/-- The kinds of the cells of a type whose '==' holds cell by cell. -/
def kindsT (P : Program) : Nat → TypeId → Option (List LK)
  | 0, _ => none
  | d + 1, t => match P.underlying t, shapeT P t with
    | some .bool, some (_, 1) => some [.bool]
    | some (.int k), some (_, 1) => some [.int k]
    | some .string, some (_, 1) => some [.str]
    | some (.struct fs), some (_, n) => match P.stoodInHeld t with
      | false => kindsF P (kindsT P d) fs.toList 0 n
      | true => none
    | some (.array k e), some (_, n) => match kindsT P d e, shapeT P e with
      | some ks, some (_, m) => match k * m == n with
        | true => some (repK ks k)
        | false => none
      | _, _ => none
    | _, _ => none

/-- What '==' compares. -/
inductive EK where
  | int | bool | str | ptr
  | agg (ks : List LK)
  deriving Inhabited

def eqS (n : EK) (a b : AV) : Option (Bool × Bool) :=
  match n, a, b with
  | .int, .c (.p (.int k a)), .c (.p (.int k' b)) => match decide (k = k') with
    | true => some (true, decide (a = b))
    | false => none
  | .bool, .c (.p (.bool a)), .c (.p (.bool b)) => some (true, decide (a = b))
  | .str, .c (.p (.str a)), .c (.p (.str b)) => some (true, decide (a = b))
  | .agg ks, .agg as, .agg bs => match eqCells ks as bs with
    | some r => some (true, r)
    | none => none
  | .ptr, .c .nilp, .c .nilp => some (true, true)
  | .ptr, .c .nilp, .c (.ptr ..) | .ptr, .c (.ptr ..), .c .nilp | .ptr, .c .nilp, .c (.rp _) | .ptr, .c (.rp _), .c .nilp => some (true, false)
  | _, _, _ => none

def strA (op : BinOp) (a b : List UInt8) : Option (Bool × PV) :=
  match op with
  | .add => some (decide (a.length + b.length < 2 ^ 63), .str (a ++ b))
  | _ => none

def binS (op : BinOp) (a b : AV) : Option (Bool × AV) :=
  match a, b with
  | .c (.p (.int k m)), .c (.p (.int k' n)) =>
    match decide (k = k'), intA op k m n with
    | true, some (b, v) => some (b, .c (.p v))
    | _, _ => none
  | .c (.p (.str m)), .c (.p (.str n)) => match strA op m n with
    | some (b, v) => some (b, .c (.p v))
    | none => none
  | _, _ => none

def shS (op : BinOp) (a b : AV) : Option (Bool × AV) :=
  match a, b with
  | .c (.p (.int k m)), .c (.p (.int _ n)) => match shiftA op k m n with
    | some (b, v) => some (b, .c (.p v))
    | none => none
  | _, _ => none

def unS (op : UnOp) (a : AV) : Option AV :=
  match op, a with
  | .not, .c (.p (.bool b)) => some (.c (.p (.bool (!b))))
  | .neg, .c (.p (.int k n)) => some (.c (.p (.int k (k.wrap (0 - n)))))
  | .xor, .c (.p (.int k n)) => some (.c (.p (.int k (k.wrap (BitVec.ofInt k.bits (if k.signed then -1 else k.max) ^^^ BitVec.ofInt k.bits n).toNat))))
  | _, _ => none

def bytesOf (s : List UInt8) : List (List PV) := s.map fun b => [.int .u8 b.toNat]
def unbytes : List (List PV) → Option (List UInt8)
  | [] => some []
  | [.int .u8 n] :: r => match unbytes r with
    | some l => some (UInt8.ofNat n.toNat :: l)
    | none => none
  | _ => none

/-- A slice's elements, read only. -/
def elemsA (H : Hp) : C → Option (Bool × List (List PV))
  | .p (.sl es) => some (true, es)
  | .ti es => some (true, es)
  | .nils => some (true, [])
  | .os id n => match H.get id with
    | some (.arr _ _ es) => some (decide (n = es.length), es)
    | _ => none
  | _ => none

/-- An address plus so many cells. -/
def addC (c : C) (n : Nat) : Option C :=
  match c with
  | .ptr id o => some (.ptr id (o + n))
  | .ap id m i o => some (.ap id m i (o + n))
  | .rp cs => some (.rp (cs.drop n))
  | _ => none

def fieldAddrS (off : Nat) (a : AV) (H : Hp) : Option Res :=
  match a with
  | .c c => match addC c off with | some c => ret (.c c) H | none => none
  | _ => none

def fieldS (off : Nat) (agg : Bool) (n : Nat) (a : AV) (H : Hp) : Option Res :=
  match a with
  | .agg cs => resOf H (partP agg n cs off)
  | .mg cs => resOf H (partM agg n cs off)
  | _ => none

def ixArr (len n : Nat) (a i : AV) (H : Hp) : Option Res :=
  match a, i with
  | .c c, .c (.p (.int _ i)) => match addC c (i.toNat * n) with
    | some c => some ⟨decide (0 ≤ i ∧ i < len), .c c, H⟩
    | none => none
  | _, _ => none

def ixSl (m : Nat) (a i : AV) (H : Hp) : Option Res :=
  match a, i with
  | .c (.os id n), .c (.p (.int _ i)) => match H.get id with
    | some (.arr sz _ es) => some ⟨decide (0 ≤ i ∧ i < n ∧ m = sz ∧ n = es.length), .c (.ap id n i.toNat 0), H⟩
    | _ => none
  | .c (.p (.sl es)), .c (.p (.int _ i)) => match es[i.toNat]? with
    | some cs => some ⟨decide (0 ≤ i ∧ m = cs.length), .c (.rp cs), H⟩
    | none => none
  | .c (.ti es), .c (.p (.int _ i)) => match es[i.toNat]? with
    | some cs => some ⟨decide (0 ≤ i ∧ m = cs.length), .c (.rp cs), H⟩
    | none => none
  | _, _ => none

def ixAgg (len : Nat) (agg : Bool) (n : Nat) (a i : AV) (H : Hp) : Option Res :=
  match a, i with
  | .agg cs, .c (.p (.int _ i)) => match partP agg n cs (i.toNat * n) with
    | some (b, v) => some ⟨b && decide (0 ≤ i ∧ i < len), v, H⟩
    | none => none
  | _, _ => none

def ixStr (a i : AV) (H : Hp) : Option Res :=
  match a, i with
  | .c (.p (.str s)), .c (.p (.int _ i)) => match s[i.toNat]? with
    | some b => some ⟨decide (0 ≤ i), .c (.p (.int .u8 b.toNat)), H⟩
    | none => none
  | _, _ => none

def bound (d : Nat) : Option AV → Option (Bool × Nat)
  | none => some (true, d)
  | some (.c (.p (.int _ i))) => some (decide (0 ≤ i), i.toNat)
  | _ => none

def slStr (a : AV) (lo hi : Option AV) (H : Hp) : Option Res :=
  match a with
  | .c (.p (.str s)) => match bound 0 lo, bound s.length hi with
    | some (p, l), some (q, h) => some ⟨p && q && decide (l ≤ h ∧ h ≤ s.length), .c (.p (.str ((s.take h).drop l))), H⟩
    | _, _ => none
  | _ => none

def frz (H : Hp) : C → Option Hp
  | .os id _ => match H.get id with
    | some (.arr sz _ es) => some (H.set id (.arr sz true es))
    | _ => none
  | _ => some H

def slSl (sz : Nat) (a : AV) (lo hi mx : Option AV) (H : Hp) : Option Res :=
  match a with
  | .c c => match elemsA H c, frz H c with
    | some (b, es), some H' => match bound 0 lo, bound es.length hi, mx with
      | some (p, l), some (q, h), none => some ⟨b && p && q && decide (l ≤ h ∧ h ≤ es.length) && es.all (fun r => r.length == sz), .c (.p (.sl ((es.take h).drop l))), H'⟩
      | some (p, l), some (q, h), some (.c (.p (.int _ m))) => some ⟨b && p && q && decide (l ≤ h ∧ h ≤ es.length ∧ m = h) && es.all (fun r => r.length == sz), .c (.ti ((es.take h).drop l)), H'⟩
      | _, _, _ => none
    | _, _ => none
  | _ => none

/-- The literal of a struct or an array: each part at its place over the zero value. -/
def fillS : List (Nat × Nat × AV) → List C → Option (Bool × List C)
  | [], cs => some (true, cs)
  | (o, n, v) :: r, cs => match cellsA v with
    | some us => match fillS r (putAt cs o us) with
      | some (b, out) => some (b && decide (us.length = n ∧ o + us.length ≤ cs.length), out)
      | none => none
    | none => none

def pureA : AV → Option (List PV)
  | .c (.p v) => some [v]
  | .agg cs => some cs
  | _ => none

def freezeC (H : Hp) : C → Option (Bool × C × Hp)
  | .os id n => match H.get id with
    | some (.arr sz _ es) => some (decide (n = es.length), .p (.sl es), H.set id (.arr sz true es))
    | _ => none
  | .nils => some (true, .p (.sl []), H)
  | .ti es => some (true, .p (.sl es), H)
  | c => some (true, c, H)

def freezeCs (H : Hp) : List C → Option (Bool × List C × Hp)
  | [] => some (true, [], H)
  | c :: r => match freezeC H c with
    | some (b, c, H) => match freezeCs H r with
      | some (b', r, H) => some (b && b', c :: r, H)
      | none => none
    | none => none

def freezeA (H : Hp) : AV → Option (Bool × AV × Hp)
  | .c c => match freezeC H c with
    | some (b, c, H) => some (b, .c c, H)
    | none => none
  | .agg cs => some (true, .agg cs, H)
  | .mg cs => match freezeCs H cs with
    | some (b, cs, H) => some (b, mkAgg cs, H)
    | none => none
  | _ => none

def freezeAs (H : Hp) : List AV → Option (Bool × List AV × Hp)
  | [] => some (true, [], H)
  | c :: r => match freezeA H c with
    | some (b, c, H) => match freezeAs H r with
      | some (b', r, H) => some (b && b', c :: r, H)
      | none => none
    | none => none

/-- The elements of a slice's literal, in order, all given. -/
def litS (n : Nat) : Hp → List AV → Option (Bool × List (List PV) × Hp)
  | H, [] => some (true, [], H)
  | H, v :: r => match freezeA H v with
    | some (b, v, H) => match pureA v, litS n H r with
      | some cs, some (b', l, H) => some (b && b' && decide (cs.length = n), cs :: l, H)
      | _, _ => none
    | none => none

def mkSl (sz bytes : Nat) (zs : List PV) (l c : AV) (H : Hp) : Option Res :=
  match l, c with
  | .c (.p (.int _ l)), .c (.p (.int _ c)) =>
    some ⟨decide (0 ≤ l ∧ l ≤ c ∧ c < 2 ^ 63 ∧ bytes * c ≤ 2 ^ 47), .c (.os H.nid l.toNat), H.add (.arr sz false (List.replicate l.toNat zs))⟩
  | _, _ => none

def srcA (str : Bool) (H : Hp) (a : AV) : Option (Bool × List (List PV)) :=
  match str, a with
  | true, .c (.p (.str s)) => some (true, bytesOf s)
  | false, .c c => elemsA H c
  | _, _ => none

def appS (sz bytes : Nat) (str : Bool) (a b : AV) (H : Hp) : Option Res :=
  match srcA str H b, a with
  | some (pb, new), .c .nils => some ⟨pb && decide (new.length * bytes ≤ 2 ^ 47 ∧ new.length < 2 ^ 62) && new.all (fun r => r.length == sz), .c (.os H.nid new.length), H.add (.arr sz false new)⟩
  | some (pb, new), .c (.ti []) => some ⟨pb && decide (new.length * bytes ≤ 2 ^ 47 ∧ new.length < 2 ^ 62) && new.all (fun r => r.length == sz), .c (.os H.nid new.length), H.add (.arr sz false new)⟩
  | some (pb, new), .c (.ti es) => some ⟨pb && decide ((es.length + new.length) * bytes ≤ 2 ^ 47 ∧ es.length + new.length < 2 ^ 62 ∧ 0 < new.length) && es.all (fun r => r.length == sz) && new.all (fun r => r.length == sz),
      .c (.os H.nid (es.length + new.length)), H.add (.arr sz false (es ++ new))⟩
  | some (pb, new), .c (.os id n) => match H.get id with
    | some (.arr sz' fz es) => some ⟨pb && decide (n = es.length ∧ sz' = sz ∧ (n + new.length) * bytes ≤ 2 ^ 47 ∧ n + new.length < 2 ^ 62) && new.all (fun r => r.length == sz),
        .c (.os id (n + new.length)), H.set id (.arr sz fz (es ++ new))⟩
    | _ => none
  | _, _ => none

def lenS (str : Bool) (a : AV) (H : Hp) : Option Res :=
  match str, a with
  | true, .c (.p (.str s)) => some ⟨true, .c (.p (.int .i64 s.length)), H⟩
  | false, .c c => match elemsA H c with
    | some (b, es) => some ⟨b, .c (.p (.int .i64 es.length)), H⟩
    | none => none
  | _, _ => none

def max2A : AV → AV → Option AV
  | .c (.p (.int k a)), .c (.p (.int _ b)) => some (.c (.p (.int k (if b > a then b else a))))
  | _, _ => none
def min2A : AV → AV → Option AV
  | .c (.p (.int k a)), .c (.p (.int _ b)) => some (.c (.p (.int k (if b < a then b else a))))
  | _, _ => none

/-- An operation, its tables looked up. -/
inductive SOp where
  | move (a : SA)
  | pick (c a b : SA)
  | alloc (b : Blk)
  | box (a : SA)
  | build (z : List C) (ps : List (Nat × Nat × SA))
  | lit (n : Nat) (ps : List SA)
  | load (agg : Bool) (n : Nat) (a : SA)
  | store (n : Nat) (a v : SA)
  | chk (a : SA)
  | bin (op : BinOp) (a b : SA)
  | sh (op : BinOp) (a b : SA)
  | eq (pos : Bool) (n : EK) (a b : SA)
  | isnil (pos : Bool) (a : SA)
  | un (op : UnOp) (a : SA)
  | cInt (k : IntKind) (a : SA)
  | cStr (a : SA)
  | cBytes (a : SA)
  | cString (a : SA)
  | fn (g : FuncId) (caps : List SA)
  | mkSl (sz bytes : Nat) (zs : List PV) (l c : SA)
  | slStr (a : SA) (lo hi : Option SA)
  | slSl (sz : Nat) (a : SA) (lo hi mx : Option SA)
  | fld (off : Nat) (a : SA)
  | fldv (off : Nat) (agg : Bool) (n : Nat) (a : SA)
  | ixArr (len n : Nat) (a i : SA)
  | ixSl (n : Nat) (a i : SA)
  | ixAgg (len : Nat) (agg : Bool) (n : Nat) (a i : SA)
  | ixStr (a i : SA)
  | ext (a : SA) (i : Nat)
  | app (sz bytes : Nat) (str : Bool) (a b : SA)
  | len (str : Bool) (a : SA)
  | lenArr (n : Nat)
  | max (a b : SA)
  | min (a b : SA)
  | call (pure : Bool) (f : SA) (args : List SA)
  deriving Inhabited

def capsA : List AV → Option (List Id)
  | [] => some []
  | .c (.ptr i 0) :: r => match capsA r with
    | some l => some (i :: l)
    | none => none
  | _ => none

def bytesS (H : Hp) (c : C) : Option (Bool × List UInt8) :=
  match elemsA H c with
  | some (b, es) => match unbytes es with
    | some l => some (b, l)
    | none => none
  | none => none

/-- What an operation (no call) gives. -/
def opS (G : Gl) (o : SOp) (T : Tm) (H : Hp) : Option Res :=
  match o with
  | .move a => ret (evS G T a) H
  | .pick c a b => match evS G T c with
    | .c (.p (.bool t)) => ret (match t with | true => evS G T a | false => evS G T b) H
    | _ => none
  | .alloc b => ret (.c (.ptr H.nid 0)) (H.add b)
  | .box a => match mkRow (evS G T a) with
    | some b => ret (.c (.ptr H.nid 0)) (H.add b)
    | none => none
  | .build z ps => match fillS (ps.map fun q => (q.1, q.2.1, evS G T q.2.2)) z with
    | some (b, cs) => some ⟨b, mkAgg cs, H⟩
    | none => none
  | .lit n ps => match litS n H (ps.map (evS G T)) with
    | some (b, es, H) => some ⟨b, .c (.ti es), H⟩
    | none => none
  | .load agg n a => loadS agg n (evS G T a) H
  | .store n a v => storeS n (evS G T a) (evS G T v) H
  | .chk a => match evS G T a with
    | .c (.ptr id o) => ret (.c (.ptr id o)) H
    | .c (.rp cs) => ret (.c (.rp cs)) H
    | .c (.ap id n i o) => ret (.c (.ap id n i o)) H
    | .c (.fn g cs) => ret (.c (.fn g cs)) H
    | _ => none
  | .bin op a b => resOf H (binS op (evS G T a) (evS G T b))
  | .sh op a b => resOf H (shS op (evS G T a) (evS G T b))
  | .eq pos n a b => match eqS n (evS G T a) (evS G T b) with
    | some (p, r) => some ⟨p, .c (.p (.bool (match pos with | true => r | false => !r))), H⟩
    | none => none
  | .un op a => match unS op (evS G T a) with
    | some v => ret v H
    | none => none
  | .cInt k a => match evS G T a with
    | .c (.p (.int _ n)) => ret (.c (.p (.int k (k.wrap n)))) H
    | _ => none
  | .cStr a => match evS G T a with
    | .c (.p (.str s)) => ret (.c (.p (.str s))) H
    | _ => none
  | .cBytes a => match evS G T a with
    | .c (.p (.str s)) => ret (.c (.p (.sl (bytesOf s)))) H
    | _ => none
  | .cString a => match evS G T a with
    | .c c => match bytesS H c with
      | some (b, l) => some ⟨b, .c (.p (.str l)), H⟩
      | none => none
    | _ => none
  | .fn g caps => match capsA (caps.map (evS G T)) with
    | some l => ret (.c (.fn g l)) H
    | none => none
  | .mkSl sz bytes zs l c => mkSl sz bytes zs (evS G T l) (evS G T c) H
  | .slStr a lo hi => slStr (evS G T a) (lo.map (evS G T)) (hi.map (evS G T)) H
  | .slSl sz a lo hi mx => slSl sz (evS G T a) (lo.map (evS G T)) (hi.map (evS G T)) (mx.map (evS G T)) H
  | .fld off a => fieldAddrS off (evS G T a) H
  | .fldv off agg n a => fieldS off agg n (evS G T a) H
  | .ixArr len n a i => ixArr len n (evS G T a) (evS G T i) H
  | .ixSl n a i => ixSl n (evS G T a) (evS G T i) H
  | .ixAgg len agg n a i => ixAgg len agg n (evS G T a) (evS G T i) H
  | .ixStr a i => ixStr (evS G T a) (evS G T i) H
  | .ext a i => match evS G T a with
    | .tup vs => match vs[i]? with
      | some v => ret v H
      | none => none
    | _ => none
  | .app sz bytes str a b => appS sz bytes str (evS G T a) (evS G T b) H
  | .len str a => lenS str (evS G T a) H
  | .lenArr n => ret (.c (.p (.int .i64 n))) H
  | .isnil .. => none
  | .max a b => match max2A (evS G T a) (evS G T b) with
    | some v => ret v H
    | none => none
  | .min a b => match min2A (evS G T a) (evS G T b) with
    | some v => ret v H
    | none => none
  | .call .. => none

/-! ### Looking the tables up -/

def compAs : List Operand → Option (List SA)
  | [] => some []
  | a :: r => match compA a, compAs r with
    | some x, some l => some (x :: l)
    | _, _ => none

def compO : Option Operand → Option (Option SA)
  | none => some none
  | some a => match compA a with
    | some x => some (some x)
    | none => none

def zeroCs (P : Program) (t : TypeId) : Option (List C) :=
  match P.info? t with
  | some i => match i.zero with
    | some z => constCs z.cells.toList
    | none => none
  | none => none

def fieldOf (P : Program) (t : TypeId) (f : Nat) : Option (Nat × Bool × Nat) :=
  match P.underlying t with
  | some (.struct fs) => match fs[f]? with
    | some fd => match shapeT P fd.type with
      | some (a, n) => some (fd.offset, a, n)
      | none => none
    | none => none
  | _ => none

def fieldPlaces (P : Program) : List Field → Option (List (Nat × Nat))
  | [] => some []
  | f :: r => match P.info? f.type, fieldPlaces P r with
    | some j, some l => some ((f.offset, j.size) :: l)
    | _, _ => none

def compParts (place : Nat → Option (Nat × Nat)) : List (Nat × Operand) → Option (List (Nat × Nat × SA))
  | [] => some []
  | (i, a) :: r => match place i, compA a, compParts place r with
    | some (o, n), some x, some l => some ((o, n, x) :: l)
    | _, _, _ => none

def compBuild (P : Program) (t : TypeId) (ps : List (Nat × Operand)) : Option SOp :=
  match zeroCs P t, P.underlying t with
  | some z, some (.struct fs) => match fieldPlaces P fs.toList with
    | some pl => match compParts (fun i => pl[i]?) ps with
      | some l => some (.build z l)
      | none => none
    | none => none
  | some z, some (.array _ e) => match P.info? e with
    | some j => match compParts (fun i => some (i * j.size, j.size)) ps with
      | some l => some (.build z l)
      | none => none
    | none => none
  | _, _ => none

/-- The elements of a slice's literal: all of them, in order. -/
def compLit : Nat → List (Nat × Operand) → Option (List SA)
  | _, [] => some []
  | i, (j, a) :: r => match i == j, compA a, compLit (i + 1) r with
    | true, some x, some l => some (x :: l)
    | _, _, _ => none

def refFree (P : Program) : Nat → TypeId → Bool
  | 0, _ => false
  | d + 1, t => match P.underlying t with
    | some .bool | some (.int _) | some .string => true
    | some (.slice e) => refFree P d e
    | some (.array _ e) => refFree P d e
    | some (.struct fs) => fs.toList.all fun f => refFree P d f.type
    | _ => false

def pureFn (P : Program) (g : FuncId) : Bool :=
  match P.funcs[g]? with
  | some fn => fn.body.isSome && fn.params.toList.all (refFree P 12) && fn.resultTypes.toList.all (refFree P 12) && fn.nfree == 0
  | none => false

def compCall (P : Program) (b : Builtin) (ts : List TypeId) (args : List Operand) : Option SOp :=
  match b, ts, args with
  | .append, t :: u :: _, [a, c] => match P.underlying t, P.underlying u, compA a, compA c with
    | some (.slice e), some (.slice _), some x, some y => match P.info? e, zeroCs P e with
      | some i, some z => match decide (0 < i.size ∧ z.length = i.size) with
        | true => some (.app i.size i.bytes false x y)
        | false => none
      | _, _ => none
    | some (.slice e), some .string, some x, some y => match P.info? e, zeroCs P e with
      | some i, some z => match decide (i.size = 1 ∧ z.length = i.size) with
        | true => some (.app i.size i.bytes true x y)
        | false => none
      | _, _ => none
    | _, _, _, _ => none
  | .len, t :: _, [a] => match P.underlying t, compA a with
    | some (.slice _), some x => some (.len false x)
    | some .string, some x => some (.len true x)
    | some (.array n _), some _ => some (.lenArr n)
    | _, _ => none
  | .max, _, [a, c] => match compA a, compA c with
    | some x, some y => some (.max x y)
    | _, _ => none
  | .min, _, [a, c] => match compA a, compA c with
    | some x, some y => some (.min x y)
    | _, _ => none
  | _, _, _ => none

def compNil (pos : Bool) (x y : SA) : Option SOp :=
  match y with
  | .v (.c .nils) => some (.isnil pos x)
  | _ => none

def compBin (P : Program) (op : BinOp) (t : TypeId) (x y : SA) : Option SOp :=
  match op with
  | .shl | .shr => some (.sh op x y)
  | .eql | .neq => match P.underlying t with
    | some (.int _) => some (.eq (op == .eql) .int x y)
    | some .bool => some (.eq (op == .eql) .bool x y)
    | some .string => some (.eq (op == .eql) .str x y)
    | some (.pointer _) => some (.eq (op == .eql) .ptr x y)
    | some (.slice _) => compNil (op == .eql) x y
    | some (.struct _) | some (.array _ _) => match P.eqGuardType P.depth t, kindsT P 20 t with
      | false, some ks => some (.eq (op == .eql) (.agg ks) x y)
      | _, _ => none
    | _ => none
  | _ => some (.bin op x y)

def compConv (P : Program) (s d : TypeId) (x : SA) : Option SOp :=
  match P.underlying s, P.underlying d with
  | some (.int _), some (.int k) => some (.cInt k x)
  | some .string, some .string => some (.cStr x)
  | some .string, some (.slice e) => match P.underlying e with
    | some (.int .u8) => match P.info? e with
      | some i => match decide (i.size = 1) with
        | true => some (.cBytes x)
        | false => none
      | none => none
    | _ => none
  | some (.slice e), some .string => match P.underlying e with
    | some (.int .u8) => some (.cString x)
    | _ => none
  | _, _ => none

def compOp (P : Program) (o : Op) : Option SOp :=
  match o with
  | .move a | .assign a => match compA a with
    | some x => some (.move x)
    | none => none
  | .pick c a b => match compA c, compA a, compA b with
    | some z, some x, some y => some (.pick z x y)
    | _, _, _ => none
  | .alloc t => match zeroCs P t with
    | some cs => match mkRow (mkAgg cs) with
      | some b => some (.alloc b)
      | none => none
    | none => none
  | .box _ v => match compA v with
    | some x => some (.box x)
    | none => none
  | .build t ps => compBuild P t ps.toList
  | .buildSlice t n ps => match P.underlying t with
    | some (.slice e) => match P.info? e, zeroCs P e, compLit 0 ps.toList with
      | some i, some z, some l => match decide (0 < i.size ∧ l.length = n ∧ n * i.size ≤ 2 ^ 24 ∧ z.length = i.size) with
        | true => some (.lit i.size l)
        | false => none
      | _, _, _ => none
    | _ => none
  | .load t a => match shapeT P t, compA a with
    | some (agg, n), some x => some (.load agg n x)
    | _, _ => none
  | .store t a v => match shapeT P t, compA a, compA v with
    | some (_, n), some x, some y => some (.store n x y)
    | _, _, _ => none
  | .nilCheck a => match compA a with
    | some x => some (.chk x)
    | none => none
  | .binOp op t a b _ => match compA a, compA b with
    | some x, some y => compBin P op t x y
    | _, _ => none
  | .unOp op _ a => match compA a with
    | some x => some (.un op x)
    | none => none
  | .convert s d a => match compA a with
    | some x => compConv P s d x
    | none => none
  | .makeFunc (.func g) first caps => match first.toList, compAs caps.toList with
    | [], some l => some (.fn g l)
    | _, _ => none
  | .makeSlice t l c => match P.underlying t with
    | some (.slice e) => match P.info? e, zeroCs P e, compA l, compA c with
      | some i, some z, some x, some y => match allPure z, decide (0 < i.size ∧ z.length = i.size) with
        | some zs, true => some (.mkSl i.size i.bytes zs x y)
        | _, _ => none
      | _, _, _, _ => none
    | _ => none
  | .slice t a lo hi mx => match P.underlying t, compA a, compO lo, compO hi, compO mx with
    | some .string, some x, some l, some h, some none => some (.slStr x l h)
    | some (.slice e), some x, some l, some h, some m => match m.isSome && h.isNone, P.info? e with
      | false, some i => some (.slSl i.size x l h m)
      | _, _ => none
    | _, _, _, _, _ => none
  | .fieldAddr t a f => match fieldOf P t f, compA a with
    | some (off, _, n), some x => match decide (0 < n) with
      | true => some (.fld off x)
      | false => none
    | _, _ => none
  | .field t a f => match fieldOf P t f, compA a with
    | some (off, agg, n), some x => some (.fldv off agg n x)
    | _, _ => none
  | .indexAddr t a i => match P.underlying t, compA a, compA i with
    | some (.array len e), some x, some y => match P.info? e with
      | some j => some (.ixArr len j.size x y)
      | none => none
    | some (.slice e), some x, some y => match P.info? e with
      | some j => match decide (0 < j.size) with
        | true => some (.ixSl j.size x y)
        | false => none
      | none => none
    | _, _, _ => none
  | .index t a i => match P.underlying t, compA a, compA i with
    | some (.array len e), some x, some y => match shapeT P e with
      | some (agg, n) => some (.ixAgg len agg n x y)
      | none => none
    | some .string, some x, some y => some (.ixStr x y)
    | _, _, _ => none
  | .extract a i => match compA a with
    | some x => some (.ext x i)
    | none => none
  | .call { callee := .builtin b, args, argTypes } => compCall P b argTypes.toList args.toList
  | .call { callee := .value f, args, .. } => match compA f, compAs args.toList with
    | some x, some l => some (.call (match x with | .v (.c (.fn g [])) => pureFn P g | _ => false) x l)
    | _, _ => none
  | _ => none

structure SO where
  dst : Option Nat
  op : SOp
  guard : Option (Nat × Bool)
  deriving Inhabited

inductive SC where
  | skip
  | reg (d : Bool) (ops : List SO)
  | seq (a b : SC)
  | cond (c : SA) (t e : SC)
  | block (id : Nat) (b : SC)
  | loop (b : SC)
  | rf (f : SA) (ps : List Nat) (a b : SC)
  | exit (id : Nat)
  | ret
  | dr (an : List Nat) (ops : List SO)
  deriving Inhabited

/-- Operations that write nothing abstract. -/
def SOp.ro : SOp → Bool
  | .alloc _ | .box _ | .lit .. | .store .. | .mkSl .. | .slSl .. | .app .. => false
  | .call p .. => p
  | _ => true

/-- What stands before each operation, by its edges: a set of numbers each. -/
def ancs : List Nat → List Oper → List Nat
  | acc, [] => acc
  | acc, o :: r => ancs (acc ++ [(o.after.toList.filter (Region.binds .any)).foldl (fun s e => s ||| 2 ^ e.on ||| acc.getD e.on 0) 0]) r

def looksA : SA → List Nat
  | .t t => [t]
  | _ => []

def looksM : Option SA → List Nat
  | some (.t t) => [t]
  | _ => []

def looksO : SOp → List Nat
  | .move a | .box a | .load _ _ a | .chk a | .un _ a | .cInt _ a | .cStr a | .cBytes a | .cString a | .fld _ a | .fldv _ _ _ a | .ext a _ | .len _ a | .isnil _ a => looksA a
  | .pick c a b => looksA c ++ looksA a ++ looksA b
  | .alloc _ | .lenArr _ => []
  | .build _ ps => ps.flatMap fun q => looksA q.2.2
  | .lit _ ps | .fn _ ps => ps.flatMap looksA
  | .store _ a b | .bin _ a b | .sh _ a b | .eq _ _ a b | .mkSl _ _ _ a b | .ixArr _ _ a b | .ixSl _ a b | .ixAgg _ _ _ a b | .ixStr a b | .app _ _ _ a b | .max a b | .min a b => looksA a ++ looksA b
  | .slStr a l h => looksA a ++ looksM l ++ looksM h
  | .slSl _ a l h m => looksA a ++ looksM l ++ looksM h ++ looksM m
  | .call _ f args => looksA f ++ args.flatMap looksA

def SO.looks (o : SO) : List Nat := looksO o.op ++ (match o.guard with | some (t, _) => [t] | none => [])

def apartS (x y : SO) : Bool :=
  (match x.dst with
   | some d => !y.looks.contains d && y.dst != some d
   | none => true) &&
  (match y.dst with
   | some d => !x.looks.contains d
   | none => true)

def compG (ops : List Oper) : Option (Nat × Bool) → Option (Option (Nat × Bool))
  | none => some none
  | some (j, b) => match ops[j]? with
    | some o => match o.dst with
      | some t => some (some (t, b))
      | none => none
    | none => none

def compOps (P : Program) (n : Nat) (all : List Oper) : List Oper → Option (List SO)
  | [] => some []
  | o :: r => match compOp P o.op, compG all o.guard, compOps P n all r, (match o.dst with | some d => decide (d < n) | none => true) with
    | some s, some g, some l, true => some (⟨o.dst, s, g⟩ :: l)
    | _, _, _, _ => none

/-- In a region whose order is open: two operations that no edge orders only read, and neither names what the other one gives. -/
def drawOK (ops : List Oper) (ss : List SO) : Bool :=
  let an := ancs [] ops
  (List.range ops.length).all fun j => match ops[j]?, ss[j]?, an[j]? with
    | some oj, some sj, some before =>
      oj.after.toList.all (fun e => !Region.binds .any e || decide (e.on < j)) &&
      (List.range j).all fun i => before.testBit i || (match ss[i]? with
        | some si => si.op.ro && sj.op.ro && apartS si sj
        | none => false)
    | _, _, _ => false

/-- The same, where some write: what they touch is looked at later. -/
def drawM (ops : List Oper) (ss : List SO) : Bool :=
  let an := ancs [] ops
  (List.range ops.length).all fun j => match ops[j]?, ss[j]?, an[j]? with
    | some oj, some sj, some before =>
      oj.after.toList.all (fun e => !Region.binds .any e || decide (e.on < j)) &&
      (List.range j).all fun i => before.testBit i || (match ss[i]? with
        | some si => apartS si sj
        | none => false)
    | _, _, _ => false

def compC (P : Program) (n : Nat) : Code → Option SC
  | .skip => some .skip
  | .label _ => some .skip
  | .region _ ops draw => match compOps P n ops.toList ops.toList with
    | some l => match !draw || drawOK ops.toList l with
      | true => some (.reg draw l)
      | false => match drawM ops.toList l with
        | true => some (.dr (ancs [] ops.toList) l)
        | false => none
    | none => none
  | .seq a b => match compC P n a, compC P n b with
    | some x, some y => some (.seq x y)
    | _, _ => none
  | .cond c t e => match compA c, compC P n t, compC P n e with
    | some z, some x, some y => some (.cond z x y)
    | _, _, _ => none
  | .block id b => match compC P n b with
    | some x => some (.block id x)
    | none => none
  | .loop b => match compC P n b with
    | some x => some (.loop x)
    | none => none
  | .rangeFunc f ps a b => match compA f, compC P n a, compC P n b, ps.toList.all (fun p => decide (p < n)) with
    | some z, some x, some y, true => some (.rf z ps.toList x y)
    | _, _, _, _ => none
  | .exit id => some (.exit id)
  | .ret => some .ret
  | .scope b => compC P n b
  | .goto _ => none
  | .refuse _ => none

inductive SR where
  | t (t : Nat)
  | cell (a : Nat) (agg : Bool) (n : Nat)
  deriving Inhabited

structure SF where
  np : Nat
  nt : Nat
  res : List SR
  body : SC
  deriving Inhabited

def compR (P : Program) : List ResultVar → Option (List SR)
  | [] => some []
  | .tmp t :: r => match compR P r with
    | some l => some (.t t :: l)
    | none => none
  | .cell a t :: r => match shapeT P t, compR P r with
    | some (agg, n), some l => some (.cell a agg n :: l)
    | _, _ => none

def compF (P : Program) (f : FuncId) : Option SF :=
  match P.funcs[f]? with
  | some fn => match fn.body with
    | some c => match compC P fn.ntmps c, compR P fn.results.toList, decide (fn.params.size + fn.nfree ≤ fn.ntmps) && !(fn.name == "runtime.NumGoroutine") with
      | some s, some r, true => some ⟨fn.params.size + fn.nfree, fn.ntmps, r, s⟩
      | _, _, _ => none
    | none => none
  | none => none
end Go.Ab
