/- Running it: an evaluator with fuel, for what is closed. No condition. -/
import Derived.Test.YteoaefbcihoapaaFwD
set_option linter.unusedSimpArgs false
set_option linter.unusedVariables false
namespace Go.Ab
open Go

section force
variable {α : Type}

def forceN (n : Nat) (k : Nat → Option α) : Option α := match n with
  | 0 => k 0
  | n + 1 => k (n + 1)
def forceI (n : Int) (k : Int → Option α) : Option α := match n with
  | .ofNat n => forceN n fun n => k (.ofNat n)
  | .negSucc n => forceN n fun n => k (.negSucc n)
def forceB (b : Bool) (k : Bool → Option α) : Option α := match b with
  | true => k true
  | false => k false
def forceP (v : PV) (k : PV → Option α) : Option α := match v with
  | .int kd n => forceI n fun n => k (.int kd n)
  | .bool b => forceB b fun b => k (.bool b)
  | .str s => k (.str s)
  | .sl es => k (.sl es)
  | .fn g l => k (.fn g l)
  | .nilf => k .nilf
def forcePs (l : List PV) (k : List PV → Option α) : Option α := match l with
  | [] => k []
  | v :: r => forcePs r fun r => k (v :: r)
def forceId (i : Id) (k : Id → Option α) : Option α := match i with
  | .par n => forceN n fun n => k (.par n)
  | .loc n => forceN n fun n => k (.loc n)
def forceC (c : C) (k : C → Option α) : Option α := match c with
  | .p v => forceP v fun v => k (.p v)
  | .ptr i o => forceId i fun i => forceN o fun o => k (.ptr i o)
  | .ap i n j o => forceId i fun i => forceN n fun n => forceN j fun j => forceN o fun o => k (.ap i n j o)
  | .rp cs => k (.rp cs)
  | .nilp => k .nilp
  | .os i n => forceId i fun i => forceN n fun n => k (.os i n)
  | .nils => k .nils
  | .ti es => k (.ti es)
  | .fn g caps => k (.fn g caps)
  | .nilf => k .nilf
  | .bp g i o => forceId i fun i => forceN o fun o => k (.bp g i o)
  | .ms i n => forceId i fun i => forceN n fun n => k (.ms i n)
def forceA (a : AV) (k : AV → Option α) : Option α := match a with
  | .un => k .un
  | .c c => forceC c fun c => k (.c c)
  | .agg cs => forcePs cs fun cs => k (.agg cs)
  | .mg cs => k (.mg cs)
  | .tup vs => k (.tup vs)

def forceEs (l : List (List PV)) (k : List (List PV) → Option α) : Option α := match l with
  | [] => k []
  | v :: r => forceEs r fun r => k (v :: r)
def forceBlk (b : Blk) (k : Blk → Option α) : Option α := match b with
  | .row cs => forcePs cs fun cs => k (.row cs)
  | .mrow cs => k (.mrow cs)
  | .arr sz fz es => forceB fz fun fz => forceEs es fun es => k (.arr sz fz es)
  | .hole => k .hole
def forceBs (l : List Blk) (k : List Blk → Option α) : Option α := match l with
  | [] => k []
  | v :: r => forceBlk v fun v => forceBs r fun r => k (v :: r)
def forceH (H : Hp) (k : Hp → Option α) : Option α := match H with
  | ⟨p, l⟩ => forceBs p fun p => forceBs l fun l => k ⟨p, l⟩

theorem forceN_eq (n : Nat) (k : Nat → Option α) : forceN n k = k n := by cases n <;> rfl
theorem forceI_eq (n : Int) (k : Int → Option α) : forceI n k = k n := by cases n <;> simp [forceI, forceN_eq]
theorem forceB_eq (b : Bool) (k : Bool → Option α) : forceB b k = k b := by cases b <;> rfl
theorem forceP_eq (v : PV) (k : PV → Option α) : forceP v k = k v := by cases v <;> simp [forceP, forceI_eq, forceB_eq]
theorem forcePs_eq (l : List PV) : ∀ (k : List PV → Option α), forcePs l k = k l := by
  induction l with
  | nil => intro k; rfl
  | cons v r ih => intro k; simp [forcePs, ih]
theorem forceId_eq (i : Id) (k : Id → Option α) : forceId i k = k i := by cases i <;> simp [forceId, forceN_eq]
theorem forceC_eq (c : C) (k : C → Option α) : forceC c k = k c := by cases c <;> simp [forceC, forceP_eq, forceId_eq, forceN_eq]
theorem forceA_eq (a : AV) (k : AV → Option α) : forceA a k = k a := by cases a <;> simp [forceA, forceC_eq, forcePs_eq]
theorem forceEs_eq (l : List (List PV)) : ∀ (k : List (List PV) → Option α), forceEs l k = k l := by
  induction l with
  | nil => intro k; rfl
  | cons v r ih => intro k; simp [forceEs, ih]
theorem forceBlk_eq (b : Blk) (k : Blk → Option α) : forceBlk b k = k b := by cases b <;> simp [forceBlk, forcePs_eq, forceEs_eq, forceB_eq]
theorem forceBs_eq (l : List Blk) : ∀ (k : List Blk → Option α), forceBs l k = k l := by
  induction l with
  | nil => intro k; rfl
  | cons v r ih => intro k; simp [forceBs, forceBlk_eq, ih]
theorem forceH_eq (H : Hp) (k : Hp → Option α) : forceH H k = k H := by cases H; simp [forceH, forceBs_eq]
end force

/-! ### The operations once more, each a small word -/
def qPick (c a b : AV) (H : Hp) : Option Res := match c with
  | .c (.p (.bool t)) => ret (match t with | true => a | false => b) H
  | _ => none
def qBox (a : AV) (H : Hp) : Option Res := match mkRow a with
  | some b => ret (.c (.ptr H.nid 0)) (H.add b)
  | none => none
def qBuild (r : Option (Bool × List C)) (H : Hp) : Option Res := match r with
  | some (b, cs) => some ⟨b, mkAgg cs, H⟩
  | none => none
def qLit (r : Option (Bool × List (List PV) × Hp)) (d : Option Res) : Option Res := match r with
  | some (b, es, H) => some ⟨b, .c (.ti es), H⟩
  | none => d
def qChk (a : AV) (H : Hp) : Option Res := match a with
  | .c (.ptr id o) => ret (.c (.ptr id o)) H
  | .c (.rp cs) => ret (.c (.rp cs)) H
  | .c (.ap id n i o) => ret (.c (.ap id n i o)) H
  | .c (.fn g cs) => ret (.c (.fn g cs)) H
  | .c (.p (.fn g l)) => ret (.c (.p (.fn g l))) H
  | _ => none
def qEq (pos : Bool) (r : Option (Bool × Bool)) (H : Hp) : Option Res := match r with
  | some (p, r) => some ⟨p, .c (.p (.bool (match pos with | true => r | false => !r))), H⟩
  | none => none
def qVal (r : Option AV) (H : Hp) : Option Res := match r with
  | some v => ret v H
  | none => none
def qInt (k : IntKind) (a : AV) (H : Hp) : Option Res := match a with
  | .c (.p (.int _ n)) => ret (.c (.p (.int k (k.wrap n)))) H
  | _ => none
def qStr (a : AV) (H : Hp) : Option Res := match a with
  | .c (.p (.str s)) => ret (.c (.p (.str s))) H
  | _ => none
def qBytes (a : AV) (H : Hp) : Option Res := match a with
  | .c (.p (.str s)) => ret (.c (.p (.sl (bytesOf s)))) H
  | _ => none
def qString (a : AV) (H : Hp) : Option Res := match a with
  | .c c => match bytesS H c with
    | some (b, l) => some ⟨b, .c (.p (.str l)), H⟩
    | none => none
  | _ => none
def qFn (g : FuncId) (r : Option (List Id)) (H : Hp) : Option Res := match r with
  | some l => ret (.c (.fn g l)) H
  | none => none
def qExt (a : AV) (i : Nat) (H : Hp) : Option Res := match a with
  | .tup vs => match vs[i]? with
    | some v => ret v H
    | none => none
  | _ => none

noncomputable def getQ (T : Tm) (t : Nat) : AV := List.rec .un (fun q _ ih => Bool.rec ih q.2 (Nat.beq q.1 t)) T
theorem getQ_eq (T : Tm) (t : Nat) : getQ T t = T.get t := by
  induction T with
  | nil => rfl
  | cons q r ih =>
    obtain ⟨u, v⟩ := q
    have : getQ ((u, v) :: r) t = Bool.rec (getQ r t) v (Nat.beq u t) := rfl
    rw [this, ih]
    simp only [Tm.get]
    cases Nat.beq u t <;> rfl
noncomputable def evQ (G : Gl) (T : Tm) : SA → AV
  | .t t => getQ T t
  | .v v => v
  | .g g => match G g with | some cs => .c (.rp cs) | none => .un
theorem evQ_eq (G : Gl) (T : Tm) : evQ G T = evS G T := by
  funext a
  cases a <;> first | exact getQ_eq _ _ | rfl

noncomputable def opQ (G : Gl) (o : SOp) (T : Tm) (H : Hp) : Option Res :=
  match o with
  | .move a => ret (evQ G T a) H
  | .pick c a b => qPick (evQ G T c) (evQ G T a) (evQ G T b) H
  | .alloc b => ret (.c (.ptr H.nid 0)) (H.add b)
  | .box a => qBox (evQ G T a) H
  | .build z ps => qBuild (fillS (ps.map fun q => (q.1, q.2.1, evQ G T q.2.2)) z) H
  | .lit n ps => qLit (litS n H (ps.map (evQ G T))) (litP n H (ps.map (evQ G T)))
  | .load agg n a => loadS agg n (evQ G T a) H
  | .store n a v => storeS n (evQ G T a) (evQ G T v) H
  | .chk a => qChk (evQ G T a) H
  | .bin op a b => resOf H (binS op (evQ G T a) (evQ G T b))
  | .sh op a b => resOf H (shS op (evQ G T a) (evQ G T b))
  | .eq pos n a b => qEq pos (eqS n (evQ G T a) (evQ G T b)) H
  | .un op a => qVal (unS op (evQ G T a)) H
  | .cInt k a => qInt k (evQ G T a) H
  | .cStr a => qStr (evQ G T a) H
  | .cBytes a => qBytes (evQ G T a) H
  | .cString a => qString (evQ G T a) H
  | .fn g caps => qFn g (capsA (caps.map (evQ G T))) H
  | .bnd g ps => bndS g (ps.map (evQ G T)) H
  | .bad => none
  | .mkSl sz bytes zs l c => mkSl sz bytes zs (evQ G T l) (evQ G T c) H
  | .slStr a lo hi => slStr (evQ G T a) (lo.map (evQ G T)) (hi.map (evQ G T)) H
  | .slSl sz a lo hi mx => slSl sz (evQ G T a) (lo.map (evQ G T)) (hi.map (evQ G T)) (mx.map (evQ G T)) H
  | .fld off a => fieldAddrS off (evQ G T a) H
  | .fldv off agg n a => fieldS off agg n (evQ G T a) H
  | .ixArr len n a i => ixArr len n (evQ G T a) (evQ G T i) H
  | .ixSl n a i => ixSl n (evQ G T a) (evQ G T i) H
  | .ixAgg len agg n a i => ixAgg len agg n (evQ G T a) (evQ G T i) H
  | .ixStr a i => ixStr (evQ G T a) (evQ G T i) H
  | .ext a i => qExt (evQ G T a) i H
  | .app sz bytes str a b => appS sz bytes str (evQ G T a) (evQ G T b) H
  | .len str a => lenS str (evQ G T a) H
  | .lenArr n => ret (.c (.p (.int .i64 n))) H
  | .isnil .. => none
  | .max a b => qVal (max2A (evQ G T a) (evQ G T b)) H
  | .min a b => qVal (min2A (evQ G T a) (evQ G T b)) H
  | .call .. => none
theorem opQ_eq (G : Gl) (o : SOp) (T : Tm) (H : Hp) : opQ G o T H = opS G o T H := by
  have : evQ G T = evS G T := evQ_eq G T
  cases o <;> simp only [opQ, this] <;> rfl

/-- What calls give; the flag: whether the results come frozen. -/
abbrev CallR := Bool → FuncId → List AV → Hp → Option (AV × Hp)
abbrev Knows := FuncId → List AV → Option AV

section
variable (G : Gl) (own : FuncId → Bool) (kn : Knows) (call : CallR)

def pureRun (g : FuncId) (args : List AV) (H : Hp) : Option (AV × Hp) :=
  match kn g args with
  | some v => some (v, H)
  | none => match call true g args ⟨[], []⟩ with
    | some (v, _) => match pureV v with
      | true => some (v, H)
      | false => none
    | none => none

def runClos (keep : Bool) (g : FuncId) (args : List AV) (H : Hp) : Option (AV × Hp) :=
  match keep with
  | true => none
  | false => match args.all pureV1 && !own g with
    | true => pureRun kn call g args H
    | false => call false g args H

def runCall (keep pure : Bool) (f : AV) (args : List AV) (H : Hp) : Option (AV × Hp) :=
  match f with
  | .c (.fn g caps) => match pure && !own g && caps.isEmpty with
    | true => match args.all pureV1 with
      | true => pureRun kn call g args H
      | false => match keep with
        | false => match freezeAs H args with
          | some (true, args', H') => match args'.all pureV1 with
            | true => forceH H' fun H' => pureRun kn call g args' H'
            | false => none
          | _ => none
        | true => match froAs H args with
          | some args' => pureRun kn call g args' H
          | none => none
    | false => match keep, pure with
      | true, true => none
      | _, _ => call false g (args ++ caps.map fun i => .c (.ptr i 0)) H
  | .c (.p (.fn g first)) => runClos own kn call keep g (first.map bndA ++ args) H
  | .c (.bp g id o) => runClos own kn call keep g (.c (.ptr id o) :: args) H
  | _ => none

def SOp.heap : SOp → Bool
  | .alloc _ | .box _ | .lit .. | .store .. | .mkSl .. | .slSl .. | .app .. => true
  | _ => false

def heapQ (hp : Bool) (r : Option Res) : Option (AV × Hp) :=
  match r with
  | some ⟨b, v, H'⟩ => match b with
    | true => match hp with
      | true => forceH H' fun H' => some (v, H')
      | false => some (v, H')
    | false => none
  | none => none

def SOp.call? : SOp → Option (Bool × SA × List SA)
  | .call p f args => some (p, f, args)
  | _ => none

def SOp.nil? : SOp → Option (Bool × SA)
  | .isnil pos a => some (pos, a)
  | _ => none
def nilQ (d pos : Bool) (a : AV) (H : Hp) : Option (AV × Hp) :=
  match d with
  | true => none
  | false => match a with
    | .c .nils => some (.c (.p (.bool pos)), H)
    | .c (.p (.sl (_ :: _))) | .c (.ti (_ :: _)) => some (.c (.p (.bool (!pos))), H)
    | _ => none

noncomputable def runOp (d : Bool) (o : SOp) (T : Tm) (H : Hp) : Option (AV × Hp) :=
  match o.call? with
  | some (pure, f, args) => runCall own kn call d pure (evQ G T f) (args.map (evQ G T)) H
  | none => match o.nil? with
    | some (pos, a) => nilQ d pos (evQ G T a) H
    | none => heapQ o.heap (opQ G o T H)

def putQ (T : Tm) (d : Option Nat) (r : Option (AV × Hp)) : Option (Tm × Hp) :=
  match r with
  | some (v, H') => forceA v fun v => some (T.put d v, H')
  | none => none

noncomputable def run1 (d : Bool) (o : SO) (T : Tm) (H : Hp) : Option (Tm × Hp) :=
  match o.guard with
  | none => putQ T o.dst (runOp G own kn call d o.op T H)
  | some (t, want) => match getQ T t with
    | .c (.p (.bool b)) => match b, want with
      | true, true | false, false => putQ T o.dst (runOp G own kn call d o.op T H)
      | true, false | false, true => some (T.put o.dst (.tup []), H)
    | .tup [] => some (T.put o.dst (.tup []), H)
    | _ => none

noncomputable def runL (d : Bool) : List SO → Tm → Hp → Option (Tm × Hp)
  | [], T, H => some (T, H)
  | o :: r, T, H => match run1 G own kn call d o T H with
    | some (T, H) => runL d r T H
    | none => none

noncomputable def okQ (G : Gl) (o : SOp) (T : Tm) : Bool :=
  match o with
  | .lit _ ps => (ps.map (evQ G T)).all pureV1
  | .call .. => false
  | _ => true
noncomputable def opMQ (G : Gl) (slot : Id) (o : SOp) (T : Tm) (H : Hp) : Option Res :=
  match okQ G o T with
  | false => none
  | true => match opQ G o T H with
    | none => none
    | some ⟨p, v, H'⟩ => match o.adds with
      | false => some ⟨p, v, H'⟩
      | true => match H'.loc.drop H.loc.length with
        | [] => some ⟨p, v, H'⟩
        | b :: _ => match H.get slot with
          | some .hole => some ⟨p, v.ren (mvId H.nid slot), H.set slot (b.ren (mvId H.nid slot))⟩
          | _ => none
theorem okQ_eq (G : Gl) (o : SOp) (T : Tm) : okQ G o T = okM G o T := by
  cases o <;> first | rfl | (simp only [okQ, okM, evQ_eq])
theorem opMQ_eq (G : Gl) (slot : Id) (o : SOp) (T : Tm) (H : Hp) : opMQ G slot o T H = opM G slot o T H := by
  unfold opMQ opM
  rw [opQ_eq, okQ_eq]
  rfl
noncomputable def rdQ (G : Gl) (o : SOp) (T : Tm) : List Id := (saO o).flatMap fun s => idsA (evQ G T s)
noncomputable def wrQ (G : Gl) (slot : Id) (o : SOp) (T : Tm) : List Id :=
  match o with
  | .store _ a _ => idsA (evQ G T a)
  | .slSl _ a _ _ _ => idsA (evQ G T a)
  | .app _ _ _ a _ => slot :: idsA (evQ G T a)
  | .alloc _ | .box _ | .mkSl .. => [slot]
  | _ => []
theorem rdQ_eq (G : Gl) (o : SOp) (T : Tm) : rdQ G o T = rdO G o T := by simp only [rdQ, rdO, evQ_eq]
theorem wrQ_eq (G : Gl) (slot : Id) (o : SOp) (T : Tm) : wrQ G slot o T = wrO G slot o T := by
  cases o <;> first | rfl | (simp only [wrQ, wrO, evQ_eq])
def forceIds {α : Type} (l : List Id) (k : List Id → Option α) : Option α := match l with
  | [] => k []
  | v :: r => forceId v fun v => forceIds r fun r => k (v :: r)
theorem forceIds_eq {α : Type} (l : List Id) : ∀ (k : List Id → Option α), forceIds l k = k l := by
  induction l with
  | nil => intro k; rfl
  | cons v r ih => intro k; simp [forceIds, forceId_eq, ih]

/-- A call that looks at memory, by way of the blocks that it can reach. -/
noncomputable def runLoc (g : FuncId) (args : List AV) (H : Hp) : Option (AV × Hp × Fp) :=
  forceIds (reach 60 H (args.flatMap idsT) []) fun is =>
  match pickB is H.loc.length H is with
  | none => none
  | some bs0 => forceBs bs0 fun bs => match nodupB is && backB is H.loc.length (args.flatMap idsT) && (bs.all (inB bs.length) && (args.map (AV.ren (sig is 0))).all (inA bs.length)) with
    | false => none
    | true => match call true g (args.map (AV.ren (sig is 0))) ⟨bs, []⟩ with
      | none => none
      | some (v, ⟨bs', _⟩) => match underA 0 v && underH 0 ⟨bs', []⟩ && Nat.beq bs'.length bs.length with
        | true => forceH (H.puts is (bs'.map (Blk.ren (rho is H.loc.length)))) fun H' => some (v.ren (rho is H.loc.length), H', ⟨is, is⟩)
        | false => none

/-- An operation of a region whose order is open. -/
noncomputable def runOpM (slot : Nat) (o : SOp) (T : Tm) (H : Hp) : Option (AV × Hp × Fp) :=
  match o.call? with
  | some (pure, f, args) => match evQ G T f with
    | .c (.fn g []) => match pure && !own g with
      | true => match froAs H (args.map (evQ G T)) with
        | some args' => match args'.all pureV1 with
          | true => match pureRun kn call g args' H with
            | some (v, _) => some (v, H, ⟨(args.map (evQ G T)).flatMap idsA, []⟩)
            | none => none
          | false => none
        | none => runLoc call g (args.map (evQ G T)) H
      | false => runLoc call g (args.map (evQ G T)) H
    | _ => none
  | none => match opMQ G (.loc slot) o T H with
    | some ⟨b, v, H'⟩ => match b with
      | true => forceH H' fun H' => some (v, H', ⟨rdQ G o T, wrQ G (.loc slot) o T⟩)
      | false => none
    | none => none

def putM (T : Tm) (d : Option Nat) (r : Option (AV × Hp × Fp)) : Option (Tm × Hp × Fp) :=
  match r with
  | some (v, H', fp) => forceA v fun v => forceIds fp.rd fun rd => forceIds fp.wr fun wr => some (T.put d v, H', ⟨rd, wr⟩)
  | none => none

noncomputable def runM1 (slot : Nat) (o : SO) (T : Tm) (H : Hp) : Option (Tm × Hp × Fp) :=
  match o.guard with
  | none => putM T o.dst (runOpM G own kn call slot o.op T H)
  | some (t, want) => match getQ T t with
    | .c (.p (.bool b)) => match b, want with
      | true, true | false, false => putM T o.dst (runOpM G own kn call slot o.op T H)
      | true, false | false, true => some (T.put o.dst (.tup []), H, ⟨[], []⟩)
    | .tup [] => some (T.put o.dst (.tup []), H, ⟨[], []⟩)
    | _ => none

def endQ (c n : Nat) (T : Tm) (H : Hp) : Option (Ex × Tm × Hp) :=
  match c with
  | 0 => some (.norm, T, H)
  | _ + 1 => match (H.loc.drop n).all isHole with
    | true => forceH (cutD n H) fun H => some (.norm, T, H)
    | false => some (.norm, T, H)

noncomputable def runDr (an : List Nat) : List SO → Nat → Nat → Tm → Hp → List Fp → Option (Tm × Hp)
  | [], _, _, T, H, _ => some (T, H)
  | o :: r, j, s, T, H, log => match runM1 G own kn call s o T H with
    | some (T, H, fp) => match okFp (an.getD j 0) fp 0 log with
      | true => runDr an r (j + 1) (nextS o s) T H (log ++ [fp])
      | false => none
    | none => none

/-- Which variables a piece of code gives a value. -/
def dstS : SC → List Nat
  | .reg _ ops => ops.filterMap SO.dst
  | .dr _ ops => ops.filterMap SO.dst
  | .seq a b => dstS a ++ dstS b
  | .cond _ t e => dstS t ++ dstS e
  | .block _ b => dstS b
  | .loop b => dstS b
  | _ => []

def hasK (T : Tm) (t : Nat) : Bool := match T with
  | [] => false
  | (u, _) :: r => match Nat.beq u t with
    | true => true
    | false => hasK r t

/-- The variables at the next head: those that a round gives a value; the others are as they were. -/
noncomputable def trim (T1 : Tm) (T0 : Tm) : List Nat → (Tm → Option (Ex × Tm × Hp)) → Option (Ex × Tm × Hp)
  | [], k => k T0
  | t :: r, k => match hasK T0 t with
    | true => forceA (getQ T1 t) fun v => trim T1 T0 r fun T => k ((t, v) :: T)
    | false => trim T1 T0 r fun T => k ((t, .un) :: T)

noncomputable def iter (f : Tm → Hp → Option (Ex × Tm × Hp)) (ds : List Nat) (T0 : Tm) : Nat → Tm → Hp → Option (Ex × Tm × Hp)
  | 0, _, _ => none
  | n + 1, T, H => match f T H with
    | some (.norm, T1, H) => trim T1 T0 ds fun T => iter f ds T0 n T H
    | r => r

noncomputable def runS (L : Nat) : SC → Tm → Hp → Option (Ex × Tm × Hp)
  | .skip, T, H => some (.norm, T, H)
  | .reg d ops, T, H => match runL G own kn call d ops T H with
    | some (T, H) => some (.norm, T, H)
    | none => none
  | .seq a b, T, H => match runS L a T H with
    | some (.norm, T, H) => runS L b T H
    | r => r
  | .cond c t e, T, H => match evQ G T c with
    | .c (.p (.bool b)) => match b with
      | true => runS L t T H
      | false => runS L e T H
    | _ => none
  | .block id b, T, H => match runS L b T H with
    | some (.exit i, T, H) => match Nat.beq i id with
      | true => some (.norm, T, H)
      | false => some (.exit i, T, H)
    | r => r
  | .loop b, T, H => iter (runS L b) (dstS b) T L T H
  | .rf .., _, _ => none
  | .dr an ops, T, H => match runDr G own kn call an ops 0 H.loc.length T (withHoles H (cnt ops + cntC ops)) [] with
    | some (T1, H1) => endQ (cntC ops) (H.loc.length + cnt ops) T1 H1
    | none => none
  | .exit id, T, H => some (.exit id, T, H)
  | .ret, T, H => some (.ret, T, H)

def runEnd (m : Bool) (res : List SR) (T : Tm) (H : Hp) : Option (AV × Hp) :=
  match resS T H res with
  | some (true, vs) => match frzR m H vs with
    | some (true, vs, H) => some (finV vs, H)
    | _ => none
  | _ => none
end

/-- What a run needs: the globals, the functions whose results stay owned, what is known, the functions' code, the loops' fuel. -/
structure Run where
  G : Gl
  own : FuncId → Bool
  kn : Knows
  tab : FuncId → Option SF
  L : Nat

noncomputable def runF (R : Run) (call : CallR) (m : Bool) (sf : SF) (args : List AV) (H : Hp) : Option (AV × Hp) :=
  match Nat.beq args.length sf.np, runS R.G R.own R.kn call R.L sf.body (argsT 0 args) H with
  | true, some (.exit _, _, _) => none
  | true, some (_, T, H) => runEnd m sf.res T H
  | _, _ => none

/-- A call, so deep. -/
noncomputable def Run.call (R : Run) : Nat → CallR
  | 0, _, _, _, _ => none
  | d + 1, m, g, args, H => match R.tab g with
    | some sf => runF R (R.call d) m sf args H
    | none => none

section
variable {P : Program} {G : Gl} {N : Nat}

theorem freezeA_pure {a : AV} (h : pureV1 a = true) (H : Hp) : freezeA H a = some (true, a, H) := by
  cases a with
  | c c => cases c <;> simp [pureV1] at h; rfl
  | agg cs => rfl
  | _ => simp [pureV1] at h

theorem freezeAs_pure {H : Hp} : ∀ {args : List AV}, args.all pureV1 = true → freezeAs H args = some (true, args, H)
  | [], _ => rfl
  | a :: r, h => by
    simp only [List.all_cons, Bool.and_eq_true] at h
    simp [freezeAs, freezeA_pure h.1, freezeAs_pure h.2]

def CallOk (P : Program) (G : Gl) (call : CallR) : Prop := ∀ m g args H v H', call m g args H = some (v, H') → EvR P G g args H v H'
def KnOk (P : Program) (G : Gl) (kn : Knows) : Prop := ∀ g args v, kn g args = some v → EvP P G g args v

variable {own : FuncId → Bool} {kn : Knows}

theorem pureRun_sound {call : CallR} (hk : KnOk P G kn) (hc : CallOk P G call) {g : FuncId} {args : List AV} {H H' : Hp} {v : AV} (hp : args.all pureV1 = true) (h : pureRun kn call g args H = some (v, H')) : EvP P G g args v ∧ H' = H := by
  unfold pureRun at h
  split at h
  · rename_i hv
    simp only [Option.some.injEq, Prod.mk.injEq] at h
    obtain ⟨rfl, rfl⟩ := h
    exact ⟨hk _ _ _ hv, rfl⟩
  · split at h
    · rename_i v' H1 he
      split at h
      · rename_i hv
        simp only [Option.some.injEq, Prod.mk.injEq] at h
        obtain ⟨rfl, rfl⟩ := h
        exact ⟨⟨hp, hv, (hc _ _ _ _ _ _ he).mono fun _ _ hr => hr.1⟩, rfl⟩
      · cases h
    · cases h

theorem EvP.toR {g : FuncId} {args : List AV} {v : AV} (h : EvP P G g args v) (H : Hp) : EvR P G g args H v H := h.at H

theorem cK_p {keep : Bool} {g : FuncId} {args : List AV} {H : Hp} {v : AV} {k : AV → Hp → Prop} (h : EvP P G g args v) (hk : k v H) : callK P G keep true g [] args H k := by
  cases keep with
  | true => exact ⟨rfl, rfl, args, freezeAs_pure h.1, v, h, hk⟩
  | false => exact ⟨false, args, H, v, H, rfl, by simpa using h.toR H, hk⟩

theorem cK_pf {pure : Bool} {g : FuncId} {args args' : List AV} {H H' : Hp} {v : AV} {k : AV → Hp → Prop} (hf : freezeAs H args = some (true, args', H')) (h : EvP P G g args' v) (hk : k v H') : callK P G false pure g [] args H k :=
  ⟨true, args', H', v, H', hf, by simpa using h.toR H', hk⟩

theorem cK_r {pure : Bool} {g : FuncId} {caps : List Id} {args : List AV} {H H' : Hp} {v : AV} {k : AV → Hp → Prop} (h : EvR P G g (args ++ caps.map fun i => .c (.ptr i 0)) H v H') (hk : k v H') : callK P G false pure g caps args H k :=
  ⟨false, args, H, v, H', rfl, h, hk⟩

theorem cK_rt {g : FuncId} {caps : List Id} {args : List AV} {H H' : Hp} {v : AV} {k : AV → Hp → Prop} (h : EvR P G g (args ++ caps.map fun i => .c (.ptr i 0)) H v H') (hk : k v H') : callK P G true false g caps args H k :=
  ⟨false, args, H, v, H', rfl, h, hk⟩
theorem cK_rft {g : FuncId} {caps : List Id} {args args' : List AV} {H H1 H' : Hp} {v : AV} {k : AV → Hp → Prop} (hf : freezeAs H args = some (true, args', H1)) (h : EvR P G g (args' ++ caps.map fun i => .c (.ptr i 0)) H1 v H') (hk : k v H') : callK P G true false g caps args H k :=
  ⟨true, args', H1, v, H', hf, h, hk⟩
theorem cK_rf {pure : Bool} {g : FuncId} {caps : List Id} {args args' : List AV} {H H1 H' : Hp} {v : AV} {k : AV → Hp → Prop} (hf : freezeAs H args = some (true, args', H1)) (h : EvR P G g (args' ++ caps.map fun i => .c (.ptr i 0)) H1 v H') (hk : k v H') : callK P G false pure g caps args H k :=
  ⟨true, args', H1, v, H', hf, h, hk⟩

theorem froA_pureV1 {H : Hp} {a b : AV} (h : froA H a = some b) : pureV1 b = true := by
  cases a with
  | c c =>
    cases c with
    | os id n =>
      simp only [froA] at h
      repeat' split at h
      all_goals (first | (cases h; done) | (cases h; rfl))
    | _ => simp [froA] at h <;> subst h <;> rfl
  | agg cs => simp [froA] at h; subst h; rfl
  | mg cs =>
    simp only [froA] at h
    split at h
    · cases h; rfl
    · cases h
  | _ => simp [froA] at h
theorem froAs_pureV1 {H : Hp} : ∀ {l m : List AV}, froAs H l = some m → m.all pureV1 = true
  | [], m, h => by simp [froAs] at h; subst h; rfl
  | a :: l, m, h => by
    simp only [froAs] at h
    split at h
    · rename_i b l' h1 h2
      cases h
      simp only [List.all_cons, froA_pureV1 h1, froAs_pureV1 h2, Bool.and_self]
    · cases h

theorem runCall_sound {call : CallR} (hkn : KnOk P G kn) (hc : CallOk P G call) {keep pure : Bool} {f : AV} {args : List AV} {H H' : Hp} {v : AV} {k : AV → Hp → Prop}
    (h : runCall own kn call keep pure f args H = some (v, H')) (hk : k v H') : wpCall P G keep pure f args H k := by
  have clos : ∀ {g : FuncId} {as : List AV}, runClos own kn call keep g as H = some (v, H') → closK P G keep g as H k := by
    intro g as h
    unfold runClos at h
    split at h
    · cases h
    · split at h
      · rename_i hp
        simp only [Bool.and_eq_true] at hp
        obtain ⟨hE, rfl⟩ := pureRun_sound hkn hc hp.1 h
        exact cK_pf (pure := false) (freezeAs_pure hp.1) hE hk
      · have := hc _ _ _ _ _ _ h
        exact cK_r (pure := false) (caps := []) (by simpa using this) hk
  unfold runCall at h
  split at h
  · rename_i g caps
    simp only [wpCall]
    split at h
    · rename_i hpc
      simp only [Bool.and_eq_true, List.isEmpty_iff] at hpc
      obtain ⟨⟨rfl, -⟩, rfl⟩ := hpc
      split at h
      · rename_i hp
        obtain ⟨hE, rfl⟩ := pureRun_sound hkn hc hp h
        exact cK_p hE hk
      · split at h
        · split at h
          · rename_i args' H1 hf
            split at h
            · rename_i hp
              simp only [forceH_eq] at h
              obtain ⟨hE, rfl⟩ := pureRun_sound hkn hc hp h
              exact cK_pf hf hE hk
            · cases h
          · cases h
        · split at h
          · rename_i args' hf
            obtain ⟨hE, rfl⟩ := pureRun_sound hkn hc (froAs_pureV1 hf) h
            exact ⟨rfl, rfl, args', froAs_freeze hf, v, hE, hk⟩
          · cases h
    · cases keep with
      | true =>
        cases pure with
        | true => cases h
        | false => exact cK_rt (hc _ _ _ _ _ _ h) hk
      | false => exact cK_r (hc _ _ _ _ _ _ h) hk
  · exact clos h
  · exact clos h
  · cases h

theorem runOp_sound {call : CallR} (hkn : KnOk P G kn) (hc : CallOk P G call) {d : Bool} {o : SOp} {T : Tm} {H H' : Hp} {v : AV} {k : AV → Hp → Prop}
    (h : runOp G own kn call d o T H = some (v, H')) (hk : k v H') : stepO P G d o T H k := by
  unfold runOp at h
  split at h
  · rename_i pure f args he
    have : o = .call pure f args := by
      cases o <;> simp only [SOp.call?, reduceCtorEq, Option.some.injEq, Prod.mk.injEq] at he
      obtain ⟨rfl, rfl, rfl⟩ := he
      rfl
    subst this
    rw [evQ_eq] at h
    exact runCall_sound hkn hc h hk
  · rename_i he
    split at h
    · rename_i pos a hn
      have : o = .isnil pos a := by
        cases o <;> simp only [SOp.nil?, reduceCtorEq, Option.some.injEq, Prod.mk.injEq] at hn
        obtain ⟨rfl, rfl⟩ := hn
        rfl
      subst this
      rw [evQ_eq] at h
      simp only [stepO, nilO]
      unfold nilQ at h
      split at h
      · cases h
      · split at h
        · rename_i hv
          simp only [Option.some.injEq, Prod.mk.injEq] at h
          obtain ⟨rfl, rfl⟩ := h
          rw [hv]; exact hk
        · rename_i hv
          simp only [Option.some.injEq, Prod.mk.injEq] at h
          obtain ⟨rfl, rfl⟩ := h
          rw [hv]; exact hk
        · rename_i hv
          simp only [Option.some.injEq, Prod.mk.injEq] at h
          obtain ⟨rfl, rfl⟩ := h
          rw [hv]; exact hk
        · cases h
    rename_i hn
    have e : stepO P G d o T H k = (match opS G o T H with
        | some ⟨b, v, H'⟩ => gd b (k v H')
        | none => False) := by
      cases o <;> first | rfl | (cases he; done) | (cases hn; done)
    rw [e, ← opQ_eq]
    unfold heapQ at h
    split at h
    · rename_i b v' H1 ho
      split at h
      · have : v' = v ∧ H1 = H' := by
          split at h <;> simpa only [forceH_eq, Option.some.injEq, Prod.mk.injEq] using h
        obtain ⟨rfl, rfl⟩ := this
        exact gd_mk rfl hk
      · cases h
    · cases h

theorem run1_sound {call : CallR} (hkn : KnOk P G kn) (hc : CallOk P G call) {d : Bool} {o : SO} {T T' : Tm} {H H' : Hp} {k : Tm → Hp → Prop}
    (h : run1 G own kn call d o T H = some (T', H')) (hk : k T' H') : wpO P G d o T H k := by
  unfold run1 at h
  simp only [getQ_eq] at h
  unfold wpO
  have go : putQ T o.dst (runOp G own kn call d o.op T H) = some (T', H') → stepO P G d o.op T H fun v H => k (T.put o.dst v) H := by
    intro h
    unfold putQ at h
    split at h
    · rename_i v H1 hr
      simp only [forceA_eq, Option.some.injEq, Prod.mk.injEq] at h
      obtain ⟨rfl, rfl⟩ := h
      exact runOp_sound hkn hc hr hk
    · cases h
  have pass : some (T.put o.dst (.tup []), H) = some (T', H') → k (T.put o.dst (.tup [])) H := by
    intro h
    simp only [Option.some.injEq, Prod.mk.injEq] at h
    obtain ⟨rfl, rfl⟩ := h
    exact hk
  split at h
  · rename_i hg
    rw [hg]
    exact go h
  · rename_i t want hg
    rw [hg]
    dsimp only
    split at h
    · rename_i b hb
      rw [hb]
      dsimp only
      split at h
      · exact brP_mk (fun _ => go h) (fun e => by cases e)
      · exact brP_mk (fun e => by cases e) (fun _ => go h)
      · exact brP_mk (fun _ => pass h) (fun e => by cases e)
      · exact brP_mk (fun e => by cases e) (fun _ => pass h)
    · rename_i hb
      rw [hb]
      exact pass h
    · cases h

theorem Teq.trans {T T' T'' : Tm} (h : Teq T T') (k : Teq T' T'') : Teq T T'' := fun t => (h t).trans (k t)
theorem Teq.sub {T T' : Tm} (h : Teq T T') : Sub T' T := fun t => .inr (h t)

theorem runL_sound {call : CallR} (hkn : KnOk P G kn) (hc : CallOk P G call) {d : Bool} : ∀ {ops : List SO} {T T' : Tm} {H H' : Hp} {k : Tm → Hp → Prop},
    runL G own kn call d ops T H = some (T', H') → k T' H' → wpL P G d ops T H k
  | [], T, T', H, H', k, h, hk => by
    simp only [runL, Option.some.injEq, Prod.mk.injEq] at h
    obtain ⟨rfl, rfl⟩ := h
    exact hk
  | o :: r, T, T', H, H', k, h, hk => by
    simp only [runL] at h
    split at h
    · rename_i T1 H1 h1
      exact run1_sound hkn hc h1 (runL_sound hkn hc h hk)
    · cases h

theorem put_other {T : Tm} {d : Option Nat} {v : AV} {t : Nat} (h : d ≠ some t) : (T.put d v).get t = T.get t := by
  rw [get_put]; simp [h]

theorem run1_frame {call : CallR} {d : Bool} {o : SO} {T T' : Tm} {H H' : Hp} (h : run1 G own kn call d o T H = some (T', H')) {t : Nat} (ht : o.dst ≠ some t) : T'.get t = T.get t := by
  unfold run1 at h
  have go : putQ T o.dst (runOp G own kn call d o.op T H) = some (T', H') → T'.get t = T.get t := by
    intro h
    unfold putQ at h
    split at h
    · simp only [forceA_eq, Option.some.injEq, Prod.mk.injEq] at h
      obtain ⟨rfl, rfl⟩ := h
      exact put_other ht
    · cases h
  have pass : some (T.put o.dst (.tup []), H) = some (T', H') → T'.get t = T.get t := by
    intro h
    simp only [Option.some.injEq, Prod.mk.injEq] at h
    obtain ⟨rfl, rfl⟩ := h
    exact put_other ht
  split at h
  · exact go h
  · split at h
    · split at h <;> first | exact go h | exact pass h
    · exact pass h
    · cases h

theorem runL_frame {call : CallR} {d : Bool} : ∀ {ops : List SO} {T T' : Tm} {H H' : Hp}, runL G own kn call d ops T H = some (T', H') → ∀ {t : Nat}, t ∉ ops.filterMap SO.dst → T'.get t = T.get t
  | [], T, T', H, H', h, t, ht => by
    simp only [runL, Option.some.injEq, Prod.mk.injEq] at h
    obtain ⟨rfl, rfl⟩ := h
    rfl
  | o :: r, T, T', H, H', h, t, ht => by
    simp only [runL] at h
    split at h
    · rename_i T1 H1 h1
      have h2 : o.dst ≠ some t := fun e => ht (List.mem_filterMap.2 ⟨o, by simp, e⟩)
      have h3 : t ∉ r.filterMap SO.dst := fun e => by
        obtain ⟨x, hx, e⟩ := List.mem_filterMap.1 e
        exact ht (List.mem_filterMap.2 ⟨x, by simp [hx], e⟩)
      exact (runL_frame h h3).trans (run1_frame h1 h2)
    · cases h

theorem trim_sub {T1 T0 : Tm} {r : Ex × Tm × Hp} : ∀ {ds : List Nat} {k : Tm → Option (Ex × Tm × Hp)}, trim T1 T0 ds k = some r →
    ∃ T2, k T2 = some r ∧ ∀ t, (t ∈ ds → T2.get t = .un ∨ T2.get t = T1.get t) ∧ (t ∉ ds → T2.get t = T0.get t)
  | [], k, h => ⟨T0, h, fun t => ⟨(fun h => by cases h), fun _ => rfl⟩⟩
  | d :: ds, k, h => by
    have key : ∀ v, (v = .un ∨ v = T1.get d) → trim T1 T0 ds (fun T => k ((d, v) :: T)) = some r → ∃ T2, k T2 = some r ∧ ∀ t, (t ∈ d :: ds → T2.get t = .un ∨ T2.get t = T1.get t) ∧ (t ∉ d :: ds → T2.get t = T0.get t) := by
      intro v hv h
      obtain ⟨T2, k1, k2⟩ := trim_sub h
      have hg : ∀ t, Tm.get ((d, v) :: T2) t = if d = t then v else T2.get t := fun t => by
        have := get_put T2 (some d) v t
        simpa [Tm.put] using this
      refine ⟨_, k1, fun t => ⟨fun ht => ?_, fun ht => ?_⟩⟩
      · rw [hg]
        by_cases e : d = t
        · subst e; simpa using hv
        · simp only [e, if_false]
          exact (k2 t).1 ((List.mem_cons.1 ht).resolve_left fun q => e q.symm)
      · rw [hg]
        have e : ¬ d = t := fun q => ht (by simp [q])
        simp only [e, if_false]
        exact (k2 t).2 fun q => ht (by simp [q])
    unfold trim at h
    split at h
    · rw [forceA_eq, getQ_eq] at h
      exact key _ (.inr rfl) h
    · exact key _ (.inl rfl) h

theorem iter_frame {f : Tm → Hp → Option (Ex × Tm × Hp)} {ds : List Nat} {T0 : Tm} (hf : ∀ {T T' H e H'}, f T H = some (e, T', H') → ∀ t, t ∉ ds → T'.get t = T.get t) : ∀ {n : Nat} {T T' : Tm} {H H' : Hp} {e : Ex},
    (∀ t, t ∉ ds → T.get t = T0.get t) → iter f ds T0 n T H = some (e, T', H') → ∀ t, t ∉ ds → T'.get t = T0.get t
  | 0, T, T', H, H', e, _, h => by simp [iter] at h
  | n + 1, T, T', H, H', e, h0, h => by
    simp only [iter] at h
    split at h
    · rename_i T1 H1 h1
      obtain ⟨T2, k1, k2⟩ := trim_sub (k := fun T => iter f ds T0 n T H1) h
      exact iter_frame hf (fun t ht => (k2 t).2 ht) k1
    · exact fun t ht => (hf h t ht).trans (h0 t ht)

theorem runLoc_sound {call : CallR} (hc : CallOk P G call) {g : FuncId} {args : List AV} {H H' : Hp} {v : AV} {fp : Fp} (h : runLoc call g args H = some (v, H', fp)) : LEv P G g args H v H' fp := by
  unfold runLoc at h
  rw [forceIds_eq] at h
  generalize reach 60 H (args.flatMap idsT) [] = is at h
  split at h
  · cases h
  · rename_i bs0 hp
    rw [forceBs_eq] at h
    split at h
    · cases h
    · rename_i hk
      simp only [Bool.and_eq_true] at hk
      split at h
      · cases h
      · rename_i v' bs' ls hr
        split at h
        · rename_i hu
          rw [forceH_eq] at h
          simp only [Option.some.injEq, Prod.mk.injEq] at h
          obtain ⟨rfl, rfl, rfl⟩ := h
          rw [Bool.and_eq_true] at hu
          exact LEv.reach is hp hk.1.1 hk.1.2 (by rw [Bool.and_eq_true]; exact hk.2) (hc _ _ _ _ _ _ hr) hu.1 hu.2
        · cases h

theorem runOpM_sound {call : CallR} (hkn : KnOk P G kn) (hc : CallOk P G call) {slot : Nat} {o : SOp} {T : Tm} {H H' : Hp} {v : AV} {fp : Fp} (h : runOpM G own kn call slot o T H = some (v, H', fp)) {k : AV → Hp → Fp → Prop} (hk : k v H' fp) : stepM P G slot o T H k := by
  unfold runOpM at h
  split at h
  · rename_i pure f args hcall
    obtain rfl : o = .call pure f args := by cases o <;> simp [SOp.call?] at hcall; obtain ⟨rfl, rfl, rfl⟩ := hcall; rfl
    simp only [evQ_eq] at h
    split at h
    · rename_i g hg
      split at h
      · split at h
        · rename_i args' hfr
          split at h
          · rename_i hpa
            split at h
            · rename_i v' H1 hr
              simp only [Option.some.injEq, Prod.mk.injEq] at h
              obtain ⟨rfl, rfl, rfl⟩ := h
              obtain ⟨hev, -⟩ := pureRun_sound hkn hc hpa hr
              simp only [stepM, hg]
              exact ⟨0, _, _, _, .inr (.inl ⟨rfl, args', hfr, hev, rfl, rfl⟩), hk⟩
            · cases h
          · cases h
        · simp only [stepM, hg]
          exact ⟨0, _, _, _, .inl ((by rw [List.map_nil, List.append_nil]; exact runLoc_sound hc h)), hk⟩
      · simp only [stepM, hg]
        exact ⟨0, _, _, _, .inl ((by rw [List.map_nil, List.append_nil]; exact runLoc_sound hc h)), hk⟩
    · cases h
  · rename_i hcall
    split at h
    · rename_i b v' H1 hr
      rw [opMQ_eq] at hr
      split at h
      · rw [forceH_eq] at h
        simp only [Option.some.injEq, Prod.mk.injEq] at h
        obtain ⟨rfl, rfl, rfl⟩ := h
        rw [rdQ_eq, wrQ_eq] at hk
        cases o
        case call => simp [SOp.call?] at hcall
        all_goals
          simp only [stepM, hr]
          exact hk
      · cases h
    · cases h

theorem runM1_sound {call : CallR} (hkn : KnOk P G kn) (hc : CallOk P G call) {slot : Nat} {o : SO} {T T' : Tm} {H H' : Hp} {fp : Fp} (h : runM1 G own kn call slot o T H = some (T', H', fp)) {k : Tm → Hp → Fp → Prop} (hk : k T' H' fp) : oM P G slot o T H k := by
  have put : putM T o.dst (runOpM G own kn call slot o.op T H) = some (T', H', fp) → stepM P G slot o.op T H fun v H fp => k (T.put o.dst v) H fp := by
    intro h
    cases hr : runOpM G own kn call slot o.op T H with
    | none => rw [hr] at h; cases h
    | some q =>
      obtain ⟨v, H1, fp1⟩ := q
      rw [hr] at h
      simp only [putM, forceA_eq, forceIds_eq, Option.some.injEq, Prod.mk.injEq] at h
      obtain ⟨rfl, rfl, rfl⟩ := h
      exact runOpM_sound hkn hc hr hk
  have skip : some (T.put o.dst (.tup []), H, (⟨[], []⟩ : Fp)) = some (T', H', fp) → k (T.put o.dst (.tup [])) H ⟨[], []⟩ := by
    intro h
    simp only [Option.some.injEq, Prod.mk.injEq] at h
    obtain ⟨rfl, rfl, rfl⟩ := h
    exact hk
  unfold runM1 at h
  unfold oM
  cases hg : o.guard with
  | none => rw [hg] at h; exact put h
  | some q =>
    obtain ⟨t, want⟩ := q
    rw [hg] at h
    dsimp only at h ⊢
    rw [getQ_eq] at h
    split at h
    · rename_i b hb
      rw [hb]
      split at h
      · exact put h
      · exact put h
      · exact skip h
      · exact skip h
    · rename_i hb
      rw [hb]
      exact skip h
    · cases h

theorem runDr_sound {call : CallR} (hkn : KnOk P G kn) (hc : CallOk P G call) {an : List Nat} {k : Tm → Hp → Prop} : ∀ {l : List SO} {j s : Nat} {T T' : Tm} {H H' : Hp} {log : List Fp}, runDr G own kn call an l j s T H log = some (T', H') → k T' H' → lM P G an l j s T H log k
  | [], _, _, _, _, _, _, _, h, hk => by
    simp only [runDr, Option.some.injEq, Prod.mk.injEq] at h
    obtain ⟨rfl, rfl⟩ := h
    exact hk
  | o :: r, j, s, T, T', H, H', log, h, hk => by
    simp only [runDr] at h
    split at h
    · rename_i T1 H1 fp h1
      split at h
      · rename_i hok
        exact runM1_sound hkn hc h1 (k := fun T H fp => gd (okFp (an.getD j 0) fp 0 log) (lM P G an r (j + 1) (nextS o s) T H (log ++ [fp]) k)) (gd_mk hok (runDr_sound hkn hc h hk))
      · cases h
    · cases h

theorem runM1_frame {call : CallR} {slot : Nat} {o : SO} {T T' : Tm} {H H' : Hp} {fp : Fp} (h : runM1 G own kn call slot o T H = some (T', H', fp)) {t : Nat} (ht : o.dst ≠ some t) : T'.get t = T.get t := by
  have put : putM T o.dst (runOpM G own kn call slot o.op T H) = some (T', H', fp) → T'.get t = T.get t := by
    intro h
    cases hr : runOpM G own kn call slot o.op T H with
    | none => rw [hr] at h; cases h
    | some q =>
      obtain ⟨v, H1, fp1⟩ := q
      rw [hr] at h
      simp only [putM, forceA_eq, forceIds_eq, Option.some.injEq, Prod.mk.injEq] at h
      obtain ⟨rfl, -⟩ := h
      exact put_other ht
  have skip : some (T.put o.dst (.tup []), H, (⟨[], []⟩ : Fp)) = some (T', H', fp) → T'.get t = T.get t := by
    intro h
    simp only [Option.some.injEq, Prod.mk.injEq] at h
    obtain ⟨rfl, -⟩ := h
    exact put_other ht
  unfold runM1 at h
  cases hg : o.guard with
  | none => rw [hg] at h; exact put h
  | some q =>
    obtain ⟨u, want⟩ := q
    rw [hg] at h
    dsimp only at h
    split at h
    · split at h
      · exact put h
      · exact put h
      · exact skip h
      · exact skip h
    · exact skip h
    · cases h

theorem runDr_frame {call : CallR} {an : List Nat} : ∀ {l : List SO} {j s : Nat} {T T' : Tm} {H H' : Hp} {log : List Fp}, runDr G own kn call an l j s T H log = some (T', H') → ∀ {t : Nat}, t ∉ l.filterMap SO.dst → T'.get t = T.get t
  | [], _, _, _, _, _, _, _, h, t, _ => by
    simp only [runDr, Option.some.injEq, Prod.mk.injEq] at h
    obtain ⟨rfl, -⟩ := h
    rfl
  | o :: r, j, s, T, T', H, H', log, h, t, ht => by
    simp only [runDr] at h
    split at h
    · rename_i T1 H1 fp h1
      split at h
      · have ho : o.dst ≠ some t := fun e => ht (by simp [List.filterMap_cons, e])
        have hr : t ∉ r.filterMap SO.dst := fun e => ht (by
          rw [List.filterMap_cons]
          split
          · exact e
          · exact List.mem_cons_of_mem _ e)
        exact (runDr_frame h hr).trans (runM1_frame h1 ho)
      · cases h
    · cases h

theorem runS_frame {call : CallR} (L : Nat) : ∀ {s : SC} {T T' : Tm} {H H' : Hp} {e : Ex}, runS G own kn call L s T H = some (e, T', H') → ∀ t, t ∉ dstS s → T'.get t = T.get t
  | .skip, T, T', H, H', e, h, t, _ => by simp only [runS, Option.some.injEq, Prod.mk.injEq] at h; obtain ⟨-, rfl, -⟩ := h; rfl
  | .exit _, T, T', H, H', e, h, t, _ => by simp only [runS, Option.some.injEq, Prod.mk.injEq] at h; obtain ⟨-, rfl, -⟩ := h; rfl
  | .ret, T, T', H, H', e, h, t, _ => by simp only [runS, Option.some.injEq, Prod.mk.injEq] at h; obtain ⟨-, rfl, -⟩ := h; rfl
  | .rf .., T, T', H, H', e, h, t, _ => by simp [runS] at h
  | .dr an ops, T, T', H, H', e, h, t, ht => by
    simp only [runS] at h
    split at h
    · rename_i T1 H1 h1
      have : T' = T1 := by
        unfold endQ at h
        split at h
        · cases h; rfl
        · split at h
          · rw [forceH_eq] at h; cases h; rfl
          · cases h; rfl
      subst this
      exact runDr_frame h1 ht
    · cases h
  | .reg d ops, T, T', H, H', e, h, t, ht => by
    simp only [runS] at h
    split at h
    · rename_i T1 H1 h1
      simp only [Option.some.injEq, Prod.mk.injEq] at h
      obtain ⟨-, rfl, -⟩ := h
      exact runL_frame h1 ht
    · cases h
  | .seq a b, T, T', H, H', e, h, t, ht => by
    simp only [dstS, List.mem_append, not_or] at ht
    simp only [runS] at h
    split at h
    · rename_i T1 H1 h1
      exact (runS_frame L h t ht.2).trans (runS_frame L h1 t ht.1)
    · exact runS_frame L h t ht.1
  | .cond c a b, T, T', H, H', e, h, t, ht => by
    simp only [dstS, List.mem_append, not_or] at ht
    simp only [runS] at h
    split at h
    · split at h
      · exact runS_frame L h t ht.1
      · exact runS_frame L h t ht.2
    · cases h
  | .block id b, T, T', H, H', e, h, t, ht => by
    simp only [runS] at h
    split at h
    · rename_i i T1 H1 h1
      have := runS_frame L h1 t ht
      split at h <;> simp only [Option.some.injEq, Prod.mk.injEq] at h <;> obtain ⟨-, rfl, -⟩ := h <;> exact this
    · exact runS_frame L h t ht
  | .loop b, T, T', H, H', e, h, t, ht => by
    simp only [runS] at h
    exact iter_frame (fun h t ht => runS_frame L h t ht) (fun _ _ => rfl) h t ht

theorem runS_sound (hm : P.follows .mixedOrders = true) {call : CallR} (hkn : KnOk P G kn) (hc : CallOk P G call) (L : Nat) : ∀ (s : SC) {T T' : Tm} {H H' : Hp} {e : Ex} {K : Ex → Tm → Hp → Prop},
    runS G own kn call L s T H = some (e, T', H') → K e T' H' → wps P G N s T H K
  | .skip, T, T', H, H', e, K, h, hk => by
    simp only [runS, Option.some.injEq, Prod.mk.injEq] at h
    obtain ⟨rfl, rfl, rfl⟩ := h
    exact hk
  | .exit _, T, T', H, H', e, K, h, hk => by
    simp only [runS, Option.some.injEq, Prod.mk.injEq] at h
    obtain ⟨rfl, rfl, rfl⟩ := h
    exact hk
  | .ret, T, T', H, H', e, K, h, hk => by
    simp only [runS, Option.some.injEq, Prod.mk.injEq] at h
    obtain ⟨rfl, rfl, rfl⟩ := h
    exact hk
  | .rf .., T, T', H, H', e, K, h, hk => by simp [runS] at h
  | .dr an ops, T, T', H, H', e, K, h, hk => by
    simp only [runS] at h
    split at h
    · rename_i T1 H1 h1
      refine runDr_sound hkn hc h1 ?_
      unfold endQ at h
      unfold endD
      generalize cntC ops = c at h ⊢
      cases c with
      | zero => cases h; exact hk
      | succ c =>
        dsimp only at h ⊢
        split at h
        · rename_i hh
          rw [forceH_eq] at h
          cases h
          rw [hh]; exact hk
        · rename_i hh
          cases h
          rw [hh]; exact hk
    · cases h
  | .reg d ops, T, T', H, H', e, K, h, hk => by
    simp only [runS] at h
    split at h
    · rename_i T1 H1 h1
      simp only [Option.some.injEq, Prod.mk.injEq] at h
      obtain ⟨rfl, rfl, rfl⟩ := h
      exact runL_sound hkn hc h1 hk
    · cases h
  | .seq a b, T, T', H, H', e, K, h, hk => by
    simp only [runS] at h
    split at h
    · rename_i T1 H1 h1
      exact runS_sound hm hkn hc L a h1 (show seqK (wps P G N b) K .norm T1 H1 from runS_sound hm hkn hc L b h hk)
    · rename_i hn
      refine runS_sound hm hkn hc L a h ?_
      cases e with
      | norm => exact absurd h (hn _ _)
      | exit i => exact hk
      | ret => exact hk
  | .cond c t f, T, T', H, H', e, K, h, hk => by
    simp only [runS, evQ_eq] at h
    simp only [wps]
    split at h
    · rename_i b hb
      rw [hb]
      dsimp only
      split at h
      · exact brP_mk (fun _ => runS_sound hm hkn hc L t h hk) (fun e => by cases e)
      · exact brP_mk (fun e => by cases e) (fun _ => runS_sound hm hkn hc L f h hk)
    · cases h
  | .block id b, T, T', H, H', e, K, h, hk => by
    simp only [runS] at h
    split at h
    · rename_i i T1 H1 h1
      refine runS_sound hm hkn hc L b h1 ?_
      simp only [blockK]
      split at h <;> rename_i hb <;> rw [hb] <;> simp only [Option.some.injEq, Prod.mk.injEq] at h <;> obtain ⟨rfl, rfl, rfl⟩ := h <;> exact hk
    · rename_i hn
      refine runS_sound hm hkn hc L b h ?_
      cases e with
      | norm => exact hk
      | exit i => exact absurd h (hn _ _ _)
      | ret => exact hk
  | .loop b, T, T', H, H', e, K, h, hk => by
    simp only [runS] at h
    simp only [wps]
    refine SemS.loop hm (σ := Nat × Tm × Hp) (fun s => s.2.1) (fun s => s.2.2) (fun s => s.1) (fun s => (∀ t, t ∉ dstS b → s.2.1.get t = T.get t) ∧ iter (runS G own kn call L b) (dstS b) T s.1 s.2.1 s.2.2 = some (e, T', H')) (L, T, H) ⟨(fun _ _ => rfl), h⟩ (fun t => .inr rfl) rfl ?_
    rintro ⟨n, T0, H0⟩ ⟨h0, hs⟩
    dsimp only at hs h0 ⊢
    cases n with
    | zero => simp [iter] at hs
    | succ n =>
      simp only [iter] at hs
      split at hs
      · rename_i T2 H2 h3
        obtain ⟨T3, k1, k2⟩ := trim_sub (k := fun T1 => iter (runS G own kn call L b) (dstS b) T n T1 H2) hs
        refine runS_sound hm hkn hc L b h3 ?_
        refine ⟨(n, T3, H2), ⟨(fun t ht => (k2 t).2 ht), k1⟩, Nat.lt_succ_self n, fun t => ?_, rfl⟩
        by_cases ht : t ∈ dstS b
        · exact (k2 t).1 ht
        · exact .inr (((k2 t).2 ht).trans ((runS_frame L h3 t ht).trans (h0 t ht)).symm)
      · rename_i hn
        refine runS_sound hm hkn hc L b hs ?_
        cases e with
        | norm => exact absurd hs (hn _ _)
        | exit i => exact hk
        | ret => exact hk

theorem runEnd_sound {m : Bool} {res : List SR} {T : Tm} {H H' : Hp} {v : AV} {Q : AV → Hp → Prop} {e : Ex} (he : ∀ i, e ≠ .exit i) (h : runEnd m res T H = some (v, H')) (hq : Q v H') : endK m res Q e T H := by
  have : endK m res Q e T H = endK m res Q .norm T H := by cases e <;> first | rfl | exact absurd rfl (he _)
  rw [this]
  unfold runEnd at h
  unfold endK
  split at h
  · rename_i vs h1
    rw [h1]
    split at h
    · rename_i vs' H1 h2
      simp only [Option.some.injEq, Prod.mk.injEq] at h
      obtain ⟨rfl, rfl⟩ := h
      refine gd_mk rfl ?_
      rw [h2]
      exact gd_mk rfl hq
    · cases h
  · cases h

/-- What a run needs is so. -/
structure Run.Ok (P : Program) (R : Run) : Prop where
  mixed : P.follows .mixedOrders = true
  tab : ∀ g sf, R.tab g = some sf → compF P g = some sf
  kn : KnOk P R.G R.kn

theorem runF_sound {R : Run} (hR : R.Ok P) {call : CallR} (hc : CallOk P R.G call) {m : Bool} {g : FuncId} {sf : SF} (hf : compF P g = some sf) {args : List AV} {H H' : Hp} {v : AV}
    (h : runF R call m sf args H = some (v, H')) : EvR P R.G g args H v H' := by
  unfold runF at h
  split at h
  · cases h
  · rename_i e T1 H1 hn hb h1
    exact evG_of m hf (Nat.eq_of_beq_eq_true hb) (SemS.of_wps hR.mixed (runS_sound hR.mixed hR.kn hc R.L _ h1 (runEnd_sound hn h ⟨rfl, rfl⟩)))
  · cases h

theorem Run.Ok.call {R : Run} (hR : R.Ok P) : ∀ d, CallOk P R.G (R.call d)
  | 0, m, g, args, H, v, H', h => by simp [Run.call] at h
  | d + 1, m, g, args, H, v, H', h => by
    simp only [Run.call] at h
    split at h
    · rename_i sf hs
      exact runF_sound hR (hR.call d) (hR.tab _ _ hs) h
    · cases h

/-- What a run shows of a function of values. -/
theorem EvP.of_run {R : Run} (hR : R.Ok P) (d : Nat) {g : FuncId} {args : List AV} {v : AV}
    (h : (args.all pureV1 && pureV v) = true) (hr : (R.call d true g args ⟨[], []⟩).map Prod.fst = some v) : EvP P R.G g args v := by
  simp only [Bool.and_eq_true] at h
  cases hc' : R.call d true g args ⟨[], []⟩ with
  | none => rw [hc'] at hr; cases hr
  | some r =>
    rw [hc'] at hr
    simp only [Option.map_some, Option.some.injEq] at hr
    exact ⟨h.1, h.2, (hR.call d true g args _ r.1 r.2 hc').mono fun _ _ q => q.1.trans hr⟩

def isT (r : Option (AV × Hp)) : Bool := match r with
  | some (.c (.p (.bool true)), _) => true
  | _ => false

/-- The rest of a body, run. -/
noncomputable def runRest (R : Run) (call : CallR) (m : Bool) (s : SC) (res : List SR) (T : Tm) (H : Hp) : Option (AV × Hp) :=
  match runS R.G R.own R.kn call R.L s T H with
  | some (.exit _, _, _) => none
  | some (_, T, H) => runEnd m res T H
  | none => none

/-- A run that comes to 'true'. -/
theorem EvP.of_isT {R : Run} (hR : R.Ok P) (d : Nat) {g : FuncId} {args : List AV} (ha : args.all pureV1 = true) (h : isT (R.call d true g args ⟨[], []⟩) = true) : EvP P R.G g args (.c (.p (.bool true))) := by
  refine EvP.of_run hR d (by rw [ha]; rfl) ?_
  unfold isT at h
  split at h
  · rename_i e; rw [e]; rfl
  · cases h
end
end Go.Ab
