/- The evaluator whose values come out in their plain form: what one steps through by hand. No condition. What a law's arguments are, read off memory. No condition. From a law of abstract values to the row's contract. No condition. Equality of abstract values, decided; runs whose value is the one that one names. No condition. A range over a function: the rule, out of the iterator's contract. No condition. A loop's first round taken by itself; blocks forgotten. No condition. The same memory, described otherwise. No condition. Contracts put to use beside other blocks; small conveniences. No condition. Cells of given kinds, and their '=='. No condition. -/
import Derived.Test.YteoaefbcihoapaaFwG
import Derived.ProofKit
import Derived.OpenShut
import Derived.RangeFuncNested
set_option linter.unusedSimpArgs false
set_option linter.unusedVariables false
namespace Go.Ab
open Go

def fPs (l : List PV) (k : List PV → Prop) : Prop := match l with
  | [] => k []
  | v :: r => fPs r fun r => k (v :: r)
def fPsIf (fl : Bool) (l : List PV) (k : List PV → Prop) : Prop := match fl with
  | true => fPs l k
  | false => k l
def fN (n : Nat) (k : Nat → Prop) : Prop := match n with
  | 0 => k 0
  | n + 1 => k (n + 1)
def fId (i : Id) (k : Id → Prop) : Prop := match i with
  | .par n => k (.par n)
  | .loc n => fN n fun n => k (.loc n)
def fPV (v : PV) (k : PV → Prop) : Prop := match v with
  | .int kd n => k (.int kd n)
  | .bool b => k (.bool b)
  | .str s => k (.str s)
  | .sl es => k (.sl es)
  | .fn g l => k (.fn g l)
  | .nilf => k .nilf
def fC (fl : Bool) (c : C) (k : C → Prop) : Prop := match c with
  | .p v => fPV v fun v => k (.p v)
  | .ptr i o => fId i fun i => k (.ptr i o)
  | .ap i n j o => fId i fun i => k (.ap i n j o)
  | .rp cs => fPsIf fl cs fun cs => k (.rp cs)
  | .nilp => k .nilp
  | .os i n => fId i fun i => k (.os i n)
  | .nils => k .nils
  | .ti es => k (.ti es)
  | .fn g caps => k (.fn g caps)
  | .nilf => k .nilf
  | .bp g i o => fId i fun i => k (.bp g i o)
  | .ms i n => fId i fun i => k (.ms i n)
def fCs (fl : Bool) (l : List C) (k : List C → Prop) : Prop := match l with
  | [] => k []
  | v :: r => fC fl v fun v => fCs fl r fun r => k (v :: r)
def fA (fl : Bool) (a : AV) (k : AV → Prop) : Prop := match a with
  | .un => k .un
  | .c c => fC fl c fun c => k (.c c)
  | .agg cs => fPsIf fl cs fun cs => k (.agg cs)
  | .mg cs => k (.mg cs)
  | .tup vs => k (.tup vs)
def fAs (fl : Bool) (l : List AV) (k : List AV → Prop) : Prop := match l with
  | [] => k []
  | v :: r => fA fl v fun v => fAs fl r fun r => k (v :: r)
def fBlk (fl : Bool) (b : Blk) (k : Blk → Prop) : Prop := match b with
  | .row cs => fPsIf fl cs fun cs => k (.row cs)
  | .mrow cs => fCs fl cs fun cs => k (.mrow cs)
  | .arr sz fz es => k (.arr sz fz es)
  | .hole => k .hole
def fBs (fl : Bool) (l : List Blk) (k : List Blk → Prop) : Prop := match l with
  | [] => k []
  | v :: r => fBlk fl v fun v => fBs fl r fun r => k (v :: r)
def fH (fl : Bool) (H : Hp) (k : Hp → Prop) : Prop := match H with
  | ⟨p, l⟩ => fBs fl p fun p => fBs fl l fun l => k ⟨p, l⟩
def fPut (T : Tm) (d : Option Nat) (v : AV) (k : Tm → Prop) : Prop := match d with
  | some t => k ((t, v) :: T)
  | none => k T

theorem fPs_eq (l : List PV) : ∀ (k : List PV → Prop), fPs l k = k l := by
  induction l with
  | nil => intro k; rfl
  | cons v r ih => intro k; simp [fPs, ih]
theorem fPsIf_eq (fl : Bool) (l : List PV) (k : List PV → Prop) : fPsIf fl l k = k l := by cases fl <;> simp [fPsIf, fPs_eq]
theorem fN_eq (n : Nat) (k : Nat → Prop) : fN n k = k n := by cases n <;> rfl
theorem fId_eq (i : Id) (k : Id → Prop) : fId i k = k i := by cases i <;> simp [fId, fN_eq]
theorem fPV_eq (v : PV) (k : PV → Prop) : fPV v k = k v := by cases v <;> rfl
theorem fC_eq (fl : Bool) (c : C) (k : C → Prop) : fC fl c k = k c := by cases c <;> simp [fC, fPV_eq, fId_eq, fN_eq, fPsIf_eq]
theorem fCs_eq (fl : Bool) (l : List C) : ∀ (k : List C → Prop), fCs fl l k = k l := by
  induction l with
  | nil => intro k; rfl
  | cons v r ih => intro k; simp [fCs, fC_eq, ih]
theorem fA_eq (fl : Bool) (a : AV) (k : AV → Prop) : fA fl a k = k a := by cases a <;> simp [fA, fC_eq, fPsIf_eq]
theorem fAs_eq (fl : Bool) (l : List AV) : ∀ (k : List AV → Prop), fAs fl l k = k l := by
  induction l with
  | nil => intro k; rfl
  | cons v r ih => intro k; simp [fAs, fA_eq, ih]
theorem fBlk_eq (fl : Bool) (b : Blk) (k : Blk → Prop) : fBlk fl b k = k b := by cases b <;> simp [fBlk, fPsIf_eq, fCs_eq]
theorem fBs_eq (fl : Bool) (l : List Blk) : ∀ (k : List Blk → Prop), fBs fl l k = k l := by
  induction l with
  | nil => intro k; rfl
  | cons v r ih => intro k; simp [fBs, fBlk_eq, ih]
theorem fH_eq (fl : Bool) (H : Hp) (k : Hp → Prop) : fH fl H k = k H := by cases H; simp [fH, fBs_eq]
theorem fPut_eq (T : Tm) (d : Option Nat) (v : AV) (k : Tm → Prop) : fPut T d v k = k (T.put d v) := by cases d <;> rfl

section
variable (P : Program) (G : Gl) (fl : Bool) (N : Nat)

/-- A call, where one stops. -/
inductive CallK (keep pure : Bool) (g : FuncId) (caps : List Id) (args : List AV) (H : Hp) (k : AV → Hp → Prop) : Prop
  | mk (h : callK P G keep pure g caps args H k)

def callF (keep pure : Bool) (f : AV) (args : List AV) (H : Hp) (k : AV → Hp → Prop) : Prop :=
  match f with
  | .c (.fn g caps) => fAs fl args fun args => CallK P G keep pure g caps args H fun v H => fA fl v fun v => fH fl H fun H => k v H
  | .c (.p (.fn g first)) => match keep with
    | true => False
    | false => fAs fl (first.map bndA ++ args) fun args => CallK P G false false g [] args H fun v H => fA fl v fun v => fH fl H fun H => k v H
  | .c (.bp g id o) => match keep with
    | true => False
    | false => fAs fl (.c (.ptr id o) :: args) fun args => CallK P G false false g [] args H fun v H => fA fl v fun v => fH fl H fun H => k v H
  | _ => False

def opF (o : SOp) (T : Tm) (H : Hp) (k : AV → Hp → Prop) : Prop :=
  match o.heap with
  | true => match opS G o T H with
    | some ⟨b, v, H'⟩ => gd b (fA fl v fun v => fH fl H' fun H' => k v H')
    | none => False
  | false => match opS G o T H with
    | some ⟨b, v, H'⟩ => gd b (fA fl v fun v => k v H')
    | none => False

def eqF (pos : Bool) (r : Option (Bool × Bool)) (H : Hp) (k : AV → Hp → Prop) : Prop :=
  match r with
  | some (p, r) => gd p (match pos with
    | true => k (.c (.p (.bool r))) H
    | false => k (.c (.p (.bool (!r)))) H)
  | none => False

def pickF (c a b : AV) (H : Hp) (k : AV → Hp → Prop) : Prop :=
  match c with
  | .c (.p (.bool t)) => brP t (fA fl a fun v => k v H) (fA fl b fun v => k v H)
  | _ => False

def stepF (d : Bool) (o : SOp) (T : Tm) (H : Hp) (k : AV → Hp → Prop) : Prop :=
  match o with
  | .call pure f args => callF P G fl d pure (evS G T f) (args.map (evS G T)) H k
  | .eq pos n a b => eqF pos (eqS n (evS G T a) (evS G T b)) H k
  | .pick c a b => pickF fl (evS G T c) (evS G T a) (evS G T b) H k
  | .isnil pos a => nilO d pos (evS G T a) H k
  | o => opF G fl o T H k

def oF (d : Bool) (o : SO) (T : Tm) (H : Hp) (k : Tm → Hp → Prop) : Prop :=
  match o.guard with
  | none => stepF P G fl d o.op T H fun v H => fPut T o.dst v fun T => k T H
  | some (t, want) => match T.get t with
    | .c (.p (.bool b)) => match want with
      | true => brP b (stepF P G fl d o.op T H fun v H => fPut T o.dst v fun T => k T H) (fPut T o.dst (.tup []) fun T => k T H)
      | false => brP b (fPut T o.dst (.tup []) fun T => k T H) (stepF P G fl d o.op T H fun v H => fPut T o.dst v fun T => k T H)
    | .tup [] => fPut T o.dst (.tup []) fun T => k T H
    | _ => False

def lF (d : Bool) : List SO → Tm → Hp → (Tm → Hp → Prop) → Prop
  | [], T, H, k => k T H
  | o :: r, T, H, k => oF P G fl d o T H fun T H => lF d r T H k

/-- A call in a region whose order is open, where one stops. -/
inductive CallM (g : FuncId) (caps : List Id) (args : List AV) (H : Hp) (k : AV → Hp → Fp → Prop) : Prop
  | mk (h : ∃ sl v H' fp, callG P G (.loc sl) g caps args H v H' fp ∧ k v H' fp)

def fIds (l : List Id) (k : List Id → Prop) : Prop := match l with
  | [] => k []
  | v :: r => fId v fun v => fIds r fun r => k (v :: r)

def stepMF (slot : Nat) (o : SOp) (T : Tm) (H : Hp) (k : AV → Hp → Fp → Prop) : Prop :=
  match o with
  | .call _ f args => match calleeA (evS G T f) with
    | some (g, caps) => fAs fl (args.map (evS G T)) fun args => CallM P G g caps args H fun v H fp => fA fl v fun v => fH fl H fun H => k v H fp
    | none => False
  | .eq pos n a b => eqF pos (eqS n (evS G T a) (evS G T b)) H fun v H => k v H ⟨rdO G (.eq pos n a b) T, []⟩
  | .pick c a b => pickF fl (evS G T c) (evS G T a) (evS G T b) H fun v H => k v H ⟨rdO G (.pick c a b) T, []⟩
  | o => match opM G (.loc slot) o T H with
    | some ⟨b, v, H'⟩ => gd b (fA fl v fun v => fH fl H' fun H' => fIds (rdO G o T) fun rd => fIds (wrO G (.loc slot) o T) fun wr => k v H' ⟨rd, wr⟩)
    | none => False

def oMF (slot : Nat) (o : SO) (T : Tm) (H : Hp) (k : Tm → Hp → Fp → Prop) : Prop :=
  match o.guard with
  | none => stepMF P G fl slot o.op T H fun v H fp => fPut T o.dst v fun T => k T H fp
  | some (t, want) => match T.get t with
    | .c (.p (.bool b)) => match want with
      | true => brP b (stepMF P G fl slot o.op T H fun v H fp => fPut T o.dst v fun T => k T H fp) (fPut T o.dst (.tup []) fun T => k T H ⟨[], []⟩)
      | false => brP b (fPut T o.dst (.tup []) fun T => k T H ⟨[], []⟩) (stepMF P G fl slot o.op T H fun v H fp => fPut T o.dst v fun T => k T H fp)
    | .tup [] => fPut T o.dst (.tup []) fun T => k T H ⟨[], []⟩
    | _ => False

def endF2 (fl : Bool) (c n : Nat) (k : Tm → Hp → Prop) (T : Tm) (H : Hp) : Prop :=
  match c with
  | 0 => k T H
  | _ + 1 => match (H.loc.drop n).all isHole with
    | true => fH fl (cutD n H) fun H => k T H
    | false => k T H
def fLog (l : List Fp) (k : List Fp → Prop) : Prop := match l with
  | [] => k []
  | v :: r => fLog r fun r => k (v :: r)
def fSlot (b : Bool) (s : Nat) (k : Nat → Prop) : Prop := match b with
  | true => k (s + 1)
  | false => k s

def lMF (an : List Nat) : List SO → Nat → Nat → Tm → Hp → List Fp → (Tm → Hp → Prop) → Prop
  | [], _, _, T, H, _, k => k T H
  | o :: r, j, s, T, H, log, k => oMF P G fl s o T H fun T H fp => gd (okFp (an.getD j 0) fp 0 log) (fLog (log ++ [fp]) fun log => fSlot o.op.adds s fun s => lMF an r (j + 1) s T H log k)

def wpf : SC → Tm → Hp → (Ex → Tm → Hp → Prop) → Prop
  | .skip, T, H, k => k .norm T H
  | .reg d ops, T, H, k => lF P G fl d ops T H (k .norm)
  | .seq a b, T, H, k => wpf a T H (seqK (wpf b) k)
  | .cond c t e, T, H, k => match evS G T c with
    | .c (.p (.bool b)) => brP b (wpf t T H k) (wpf e T H k)
    | _ => False
  | .block id b, T, H, k => wpf b T H (blockK id k)
  | .loop b, T, H, k => SemS P G N (.loop b) T H k
  | .rf f ps a b, T, H, k => SemS P G N (.rf f ps a b) T H k
  | .exit id, T, H, k => k (.exit id) T H
  | .ret, T, H, k => k .ret T H
  | .dr an ops, T, H, k => lMF P G fl an ops 0 H.loc.length T (withHoles H (cnt ops + cntC ops)) [] (endF2 fl (cntC ops) (H.loc.length + cnt ops) (k .norm))

def endF (m : Bool) (res : List SR) (Q : AV → Hp → Prop) (e : Ex) (T : Tm) (H : Hp) : Prop :=
  match e with
  | .exit _ => False
  | _ => match resS T H res with
    | some (b, vs) => gd b (match frzR m H vs with
      | some (b', vs', H') => gd b' (fAs fl vs' fun vs' => fH fl H' fun H' => Q (finV vs') H')
      | none => False)
    | none => False
end

section
variable {P : Program} {G : Gl} {fl : Bool} {N : Nat}

theorem CallK_eq (keep pure : Bool) (g : FuncId) (caps : List Id) (args : List AV) (H : Hp) (k : AV → Hp → Prop) : CallK P G keep pure g caps args H k = callK P G keep pure g caps args H k := propext ⟨fun ⟨h⟩ => h, fun h => ⟨h⟩⟩

theorem callK_p {keep : Bool} {g : FuncId} {args : List AV} {H : Hp} {v : AV} {k : AV → Hp → Prop} (h : EvP P G g args v) (hk : k v H) : CallK P G keep true g [] args H k := ⟨cK_p h hk⟩
theorem callK_pf {pure : Bool} {g : FuncId} {args args' : List AV} {H H' : Hp} {v : AV} {k : AV → Hp → Prop} (hf : freezeAs H args = some (true, args', H')) (h : EvP P G g args' v) (hk : k v H') : CallK P G false pure g [] args H k := ⟨cK_pf hf h hk⟩
theorem callK_r {pure : Bool} {g : FuncId} {caps : List Id} {args : List AV} {H H' : Hp} {v : AV} {k : AV → Hp → Prop} (h : EvR P G g (args ++ caps.map fun i => .c (.ptr i 0)) H v H') (hk : k v H') : CallK P G false pure g caps args H k := ⟨cK_r h hk⟩
theorem callK_rt {g : FuncId} {caps : List Id} {args : List AV} {H H' : Hp} {v : AV} {k : AV → Hp → Prop} (h : EvR P G g (args ++ caps.map fun i => .c (.ptr i 0)) H v H') (hk : k v H') : CallK P G true false g caps args H k := ⟨cK_rt h hk⟩
theorem callK_rft {g : FuncId} {caps : List Id} {args args' : List AV} {H H1 H' : Hp} {v : AV} {k : AV → Hp → Prop} (hf : freezeAs H args = some (true, args', H1)) (h : EvR P G g (args' ++ caps.map fun i => .c (.ptr i 0)) H1 v H') (hk : k v H') : CallK P G true false g caps args H k := ⟨cK_rft hf h hk⟩
theorem callK_rf {pure : Bool} {g : FuncId} {caps : List Id} {args args' : List AV} {H H1 H' : Hp} {v : AV} {k : AV → Hp → Prop} (hf : freezeAs H args = some (true, args', H1)) (h : EvR P G g (args' ++ caps.map fun i => .c (.ptr i 0)) H1 v H') (hk : k v H') : CallK P G false pure g caps args H k := ⟨cK_rf hf h hk⟩

theorem callF_eq (keep pure : Bool) (f : AV) (args : List AV) (H : Hp) (k : AV → Hp → Prop) : callF P G fl keep pure f args H k = wpCall P G keep pure f args H k := by
  unfold callF wpCall
  cases f with
  | c c =>
    cases c with
    | fn g caps => simp only [fAs_eq, fA_eq, fH_eq, CallK_eq]
    | p v =>
      cases v with
      | fn g first => cases keep <;> simp only [fAs_eq, fA_eq, fH_eq, CallK_eq, closK]
      | _ => rfl
    | bp g id o => cases keep <;> simp only [fAs_eq, fA_eq, fH_eq, CallK_eq, closK]
    | _ => rfl
  | _ => rfl
theorem opF_eq (o : SOp) (T : Tm) (H : Hp) (k : AV → Hp → Prop) : opF G fl o T H k = (match opS G o T H with
    | some ⟨b, v, H'⟩ => gd b (k v H')
    | none => False) := by
  unfold opF
  split <;> simp only [fA_eq, fH_eq]
theorem eqF_eq (pos : Bool) (n : EK) (a b : SA) (T : Tm) (H : Hp) (k : AV → Hp → Prop) (d : Bool) : eqF pos (eqS n (evS G T a) (evS G T b)) H k = stepO P G d (.eq pos n a b) T H k := by
  simp only [stepO, opS, eqF]
  generalize eqS n (evS G T a) (evS G T b) = r
  cases r with
  | none => rfl
  | some q => obtain ⟨p, r⟩ := q; cases pos <;> rfl
theorem pickF_eq (c a b : SA) (T : Tm) (H : Hp) (k : AV → Hp → Prop) (d : Bool) : pickF fl (evS G T c) (evS G T a) (evS G T b) H k = stepO P G d (.pick c a b) T H k := by
  simp only [stepO, opS, pickF, fA_eq]
  generalize evS G T c = c
  cases c with
  | c c =>
    cases c with
    | p v =>
      cases v with
      | bool t => cases t <;> rfl
      | _ => rfl
    | _ => rfl
  | _ => rfl
theorem stepF_eq (d : Bool) (o : SOp) (T : Tm) (H : Hp) (k : AV → Hp → Prop) : stepF P G fl d o T H k = stepO P G d o T H k := by
  cases o <;> first | exact callF_eq .. | exact eqF_eq .. | exact pickF_eq .. | exact rfl | (simp only [stepF, stepO, opF_eq]; generalize opS G _ T H = r; cases r <;> rfl)
theorem oF_eq (d : Bool) (o : SO) (T : Tm) (H : Hp) (k : Tm → Hp → Prop) : oF P G fl d o T H k = wpO P G d o T H k := by
  simp only [oF, wpO, fPut_eq, stepF_eq]
  cases o.guard with
  | none => rfl
  | some q =>
    obtain ⟨t, want⟩ := q
    dsimp only
    generalize T.get t = a
    cases a with
    | c c =>
      cases c with
      | p v => cases v <;> first | rfl | (cases want <;> rfl)
      | _ => rfl
    | tup vs => cases vs <;> rfl
    | _ => rfl
theorem lF_eq (d : Bool) : ∀ (l : List SO) (T : Tm) (H : Hp) (k : Tm → Hp → Prop), lF P G fl d l T H k = wpL P G d l T H k
  | [], _, _, _ => rfl
  | o :: r, T, H, k => by simp only [lF, wpL, oF_eq, lF_eq d r]
theorem fIds_eq (l : List Id) : ∀ (k : List Id → Prop), fIds l k = k l := by
  induction l with
  | nil => intro k; rfl
  | cons v r ih => intro k; simp [fIds, fId_eq, ih]
theorem fLog_eq (l : List Fp) : ∀ (k : List Fp → Prop), fLog l k = k l := by
  induction l with
  | nil => intro k; rfl
  | cons v r ih => intro k; simp [fLog, ih]
theorem fSlot_eq (o : SO) (s : Nat) (k : Nat → Prop) : fSlot o.op.adds s k = k (nextS o s) := by unfold fSlot nextS; cases o.op.adds <;> rfl
theorem CallM_eq (g : FuncId) (caps : List Id) (args : List AV) (H : Hp) (k : AV → Hp → Fp → Prop) : CallM P G g caps args H k = ∃ sl v H' fp, callG P G (.loc sl) g caps args H v H' fp ∧ k v H' fp := propext ⟨fun ⟨h⟩ => h, fun h => ⟨h⟩⟩
theorem stepMF_eq (slot : Nat) (o : SOp) (T : Tm) (H : Hp) (k : AV → Hp → Fp → Prop) : stepMF P G fl slot o T H k = stepM P G slot o T H k := by
  cases o
  case call p f args =>
    simp only [stepMF, stepM, fAs_eq, fA_eq, fH_eq, CallM_eq]
    generalize calleeA (evS G T f) = V
    cases V with
    | none => rfl
    | some q => rfl
  case eq pos n a b =>
    simp only [stepMF, stepM, opM, okM, opS, eqF, wrO]
    generalize eqS n (evS G T a) (evS G T b) = r
    cases r with
    | none => rfl
    | some q => obtain ⟨p, r⟩ := q; cases pos <;> rfl
  case pick c a b =>
    simp only [stepMF, stepM, opM, okM, opS, pickF, fA_eq, wrO]
    generalize hc : evS G T c = x
    cases x with
    | c x =>
      cases x with
      | p v =>
        cases v with
        | bool t => cases t <;> rfl
        | _ => rfl
      | _ => rfl
    | _ => rfl
  all_goals
    simp only [stepMF, stepM, fA_eq, fH_eq, fIds_eq]
    generalize opM G _ _ T H = r
    cases r <;> rfl
theorem oMF_eq (slot : Nat) (o : SO) (T : Tm) (H : Hp) (k : Tm → Hp → Fp → Prop) : oMF P G fl slot o T H k = oM P G slot o T H k := by
  simp only [oMF, oM, fPut_eq, stepMF_eq]
  cases o.guard with
  | none => rfl
  | some q =>
    obtain ⟨t, want⟩ := q
    dsimp only
    generalize T.get t = a
    cases a with
    | c c =>
      cases c with
      | p v => cases v <;> first | rfl | (cases want <;> rfl)
      | _ => rfl
    | tup vs => cases vs <;> rfl
    | _ => rfl
theorem lMF_eq (an : List Nat) : ∀ (l : List SO) (j s : Nat) (T : Tm) (H : Hp) (log : List Fp) (k : Tm → Hp → Prop), lMF P G fl an l j s T H log k = lM P G an l j s T H log k
  | [], _, _, _, _, _, _ => rfl
  | o :: r, j, s, T, H, log, k => by simp only [lMF, lM, oMF_eq, fLog_eq, fSlot_eq, lMF_eq an r]
theorem callM_p {g : FuncId} {args args' : List AV} {H : Hp} {v : AV} {k : AV → Hp → Fp → Prop} (h : EvP P G g args' v) (hf : froAs H args = some args') (hk : k v H ⟨args.flatMap idsA, []⟩) : CallM P G g [] args H k := ⟨0, v, H, _, .inr (.inl ⟨rfl, args', hf, h, rfl, rfl⟩), hk⟩
theorem callM_l {g : FuncId} {caps : List Id} {args : List AV} {H H' : Hp} {v : AV} {fp : Fp} {k : AV → Hp → Fp → Prop} (h : LEv P G g (args ++ caps.map fun i => .c (.ptr i 0)) H v H' fp) (hk : k v H' fp) : CallM P G g caps args H k := ⟨0, v, H', fp, .inl h, hk⟩
theorem wpf_eq : ∀ (s : SC) (T : Tm) (H : Hp) (k : Ex → Tm → Hp → Prop), wpf P G fl N s T H k = wps P G N s T H k
  | .skip, _, _, _ => rfl
  | .reg d ops, T, H, k => by simp only [wpf, wps, lF_eq]
  | .seq a b, T, H, k => by
    have : wpf P G fl N b = wps P G N b := by funext T H k; exact wpf_eq b T H k
    simp only [wpf, wps, wpf_eq a, this]
  | .cond c t e, T, H, k => by
    simp only [wpf, wps, wpf_eq t, wpf_eq e]
    generalize evS G T c = a
    cases a with
    | c c =>
      cases c with
      | p v => cases v <;> rfl
      | _ => rfl
    | _ => rfl
  | .block id b, T, H, k => by simp only [wpf, wps, wpf_eq b]
  | .loop b, _, _, _ => rfl
  | .rf .., _, _, _ => rfl
  | .exit _, _, _, _ => rfl
  | .ret, _, _, _ => rfl
  | .dr an ops, T, H, k => by
    have : endF2 fl (cntC ops) (H.loc.length + cnt ops) (k .norm) = endD (cntC ops) (H.loc.length + cnt ops) (k .norm) := by
      funext T H
      unfold endF2 endD
      cases cntC ops with
      | zero => rfl
      | succ c => simp only [fH_eq]; rfl
    simp only [wpf, wps, lMF_eq, this]
theorem endF_eq (m : Bool) (res : List SR) (Q : AV → Hp → Prop) : endF fl m res Q = endK m res Q := by
  funext e T H
  simp only [endF, endK, fAs_eq, fH_eq]
  cases e <;> first
    | rfl
    | (dsimp only
       generalize resS T H res = r
       cases r with
       | none => rfl
       | some q =>
         obtain ⟨b, vs⟩ := q
         dsimp only
         generalize frzR m H vs = r
         cases r <;> rfl)

/-- A function of values: by stepping through its body. -/
theorem EvP.of_wpf (fl : Bool) (hm : P.follows .mixedOrders = true) {g : FuncId} {sf : SF} (hc : compF P g = some sf) {args : List AV} {v : AV} (hp : (args.all pureV1 && pureV v && Nat.beq args.length sf.np) = true)
    (h : wpf P G fl sf.nt sf.body (argsT 0 args) ⟨[], []⟩ (endF fl true sf.res fun r _ => r = v)) : EvP P G g args v := by
  simp only [Bool.and_eq_true] at hp
  rw [wpf_eq, endF_eq] at h
  exact ⟨hp.1.1, hp.1.2, evG_of true hc (Nat.eq_of_beq_eq_true hp.2) (SemS.of_wps hm h)⟩

/-- The same, where one stops. -/
inductive wpfS (P : Program) (G : Gl) (fl : Bool) (N : Nat) (s : SC) (T : Tm) (H : Hp) (k : Ex → Tm → Hp → Prop) : Prop
  | mk (h : wpf P G fl N s T H k)
theorem wpfS_eq : wpfS P G fl N = wpf P G fl N := by funext s T H k; exact propext ⟨fun ⟨h⟩ => h, fun h => ⟨h⟩⟩
theorem wpfS_go {s : SC} {T : Tm} {H : Hp} {k : Ex → Tm → Hp → Prop} (h : wpf P G fl N s T H k) : wpfS P G fl N s T H k := by rw [wpfS_eq]; exact h
theorem wpL_append {d : Bool} : ∀ (a b : List SO) {T : Tm} {H : Hp} {k : Tm → Hp → Prop}, wpL P G d a T H (fun T H => wpL P G d b T H k) → wpL P G d (a ++ b) T H k
  | [], _, _, _, _, h => h
  | _ :: a, b, _, _, _, h => wpO_mono (fun _ _ h => wpL_append a b h) h
/-- A region, so many operations first. -/
theorem wpf_cut (n : Nat) {d : Bool} {l : List SO} {T : Tm} {H : Hp} {k : Ex → Tm → Hp → Prop} (h : wpf P G fl N (.reg d (l.take n)) T H (seqK (wpfS P G fl N (.reg d (l.drop n))) k)) : wpf P G fl N (.reg d l) T H k := by
  rw [wpfS_eq] at h
  simp only [wpf, lF_eq] at h ⊢
  have := wpL_append (l.take n) (l.drop n) (T := T) (H := H) (k := k .norm) (by
    refine wpL_mono (fun T H q => ?_) _ h
    simpa only [seqK, wpf, lF_eq] using q)
  rwa [List.take_append_drop] at this

/-- A function that looks at memory, or changes it. -/
theorem EvR.of_wpf (fl m : Bool) (hm : P.follows .mixedOrders = true) {g : FuncId} {sf : SF} (hc : compF P g = some sf) {args : List AV} {H H' : Hp} {v : AV} (hp : Nat.beq args.length sf.np = true)
    (h : wpf P G fl sf.nt sf.body (argsT 0 args) H (endF fl m sf.res fun r h => r = v ∧ h = H')) : EvR P G g args H v H' := by
  rw [wpf_eq, endF_eq] at h
  exact evG_of m hc (Nat.eq_of_beq_eq_true hp) (SemS.of_wps hm h)

def subP (T : Tm) : Tm → Prop
  | [] => True
  | (t, v) :: r => T.get t = v ∧ subP T r

theorem Sub.of {T T' : Tm} (h : subP T T') : Sub T T' := by
  intro t
  induction T' with
  | nil => exact .inl rfl
  | cons q r ih =>
    obtain ⟨u, v⟩ := q
    simp only [Tm.get]
    split
    · rename_i e
      rw [← Nat.eq_of_beq_eq_true e]
      exact .inr h.1.symm
    · exact ih h.2

/-- What a round's end asks of the next head, in plain form. -/
def roundF {σ : Type} (Tf : σ → Tm) (Hf : σ → Hp) (μ : σ → Nat) (Inv : σ → Prop) (s : σ) (K : Ex → Tm → Hp → Prop) (e : Ex) (T : Tm) (H : Hp) : Prop :=
  match e with
  | .norm => ∃ s', Inv s' ∧ μ s' < μ s ∧ subP T (Tf s') ∧ H = Hf s'
  | e => K e T H

theorem brP_t {b : Bool} {p q : Prop} (h : b = true) (hp : p) : brP b p q := by subst h; exact hp
theorem brP_f {b : Bool} {p q : Prop} (h : b = false) (hp : q) : brP b p q := by subst h; exact hp
end
end Go.Ab

namespace Go.Ab
open Go

/-- A type's shape: values alone. -/
inductive Sh where
  | int (k : IntKind)
  | bool
  | str
  | sl (m bytes : Nat) (e : Sh)
  | st (r : Sh)
  | nil
  | cons (n : Nat) (s r : Sh)
  | arr (n m : Nat) (e : Sh)
  deriving Inhabited

def shF (P : Program) (rec : TypeId → Option Sh) : List Field → Nat → Nat → Option Sh
  | [], o, n => match o == n with
    | true => some .nil
    | false => none
  | f :: r, o, n => match f.offset == o, rec f.type, shF P rec r (o + P.cellsOf f.type) n with
    | true, some s, some q => some (.cons (P.cellsOf f.type) s q)
    | _, _, _ => none

def shOf (P : Program) : Nat → TypeId → Option Sh
  | 0, _ => none
  | d + 1, t => match P.underlying t with
    | some .bool => some .bool
    | some (.int k) => some (.int k)
    | some .string => some .str
    | some (.slice e) => match shOf P d e, decide (0 < P.cellsOf e) with
      | some s, true => some (.sl (P.cellsOf e) (P.bytesOf e) s)
      | _, _ => none
    | some (.struct fs) => match shF P (shOf P d) fs.toList 0 (P.cellsOf t) with
      | some r => some (.st r)
      | none => none
    | some (.array n e) => match shOf P d e, n * P.cellsOf e == P.cellsOf t with
      | some s, true => some (.arr n (P.cellsOf e) s)
      | _, _ => none
    | _ => none

/-- Values of a shape. -/
def wt : Sh → List PV → Prop
  | .int k, cs => ∃ n, cs = [.int k n] ∧ k.min ≤ n ∧ n ≤ k.max
  | .bool, cs => ∃ b, cs = [.bool b]
  | .str, cs => ∃ s, cs = [.str s] ∧ s.length ≤ reachBytes
  | .sl m b e, cs => ∃ es, cs = [.sl es] ∧ es.length * b ≤ reachBytes ∧ es.length ≤ maxLen ∧ ∀ r ∈ es, r.length = m ∧ wt e r
  | .st r, cs => wt r cs
  | .nil, cs => cs = []
  | .cons n s r, cs => ∃ a b, cs = a ++ b ∧ a.length = n ∧ wt s a ∧ wt r b
  | .arr n m e, cs => ∃ rs : List (List PV), cs = rs.flatten ∧ rs.length = n ∧ ∀ r ∈ rs, r.length = m ∧ wt e r

def omap {α β : Type} (f : α → Option β) : List α → Option (List β)
  | [] => some []
  | a :: r => match f a, omap f r with
    | some b, some l => some (b :: l)
    | _, _ => none

/-- The values that data say. -/
def pvOf {H : Type} : Sh → List (DataW H) → Option (List PV)
  | .int _, [.lit (.int k n)] => some [.int k n]
  | .bool, [.lit (.bool b)] => some [.bool b]
  | .str, [.lit (.string s)] => some [.str s]
  | .sl _ _ _, [.nil] => some [.sl []]
  | .sl _ _ e, [.slice ds _] => match omap (fun d => pvOf e [d]) ds with
    | some es => some [.sl es]
    | none => none
  | .st r, [.agg ds] => pvOf r ds
  | .nil, [] => some []
  | .cons _ s r, d :: ds => match pvOf s [d], pvOf r ds with
    | some a, some b => some (a ++ b)
    | _, _ => none
  | .arr _ _ e, [.agg ds] => match omap (fun d => pvOf e [d]) ds with
    | some rs => some rs.flatten
    | none => none
  | _, _ => none

/-- All cells of a world. -/
def allF (w : World) : Cl := fun b o => (w.cell? ⟨b, o, none⟩).isSome = true

section
variable {H : Type} {enc : TypeId × Value → H} {P : Program} {w : World} {sp : Nat → Bool} {held : Bool}

def Opens (P : Program) (enc : TypeId × Value → H) (w : World) (sp : Nat → Bool) (held : Bool) (n : Nat) : Prop :=
  ∀ (fuel : Nat) (t : TypeId) (cs : List Value) (d : DataW H) (p : List MemPlace) (sh : Sh), DataW.trod enc P w 0 sp held fuel t cs = some (d, p) → shOf P n t = some sh → (∀ x ∈ d.weights P t, x ≤ reachBytes) →
    ∃ pvs, pvOf sh [d] = some pvs ∧ wt sh pvs ∧ F2 (Rp (allF w) w) pvs cs

theorem shF_le {rec : TypeId → Option Sh} : ∀ {fs : List Field} {o n : Nat} {sh : Sh}, shF P rec fs o n = some sh → o ≤ n
  | [], o, n, sh, h => by
    simp only [shF] at h
    split at h
    · rename_i e; simp at e; omega
    · cases h
  | f :: r, o, n, sh, h => by
    simp only [shF] at h
    split at h
    · rename_i h3
      have := shF_le h3
      omega
    · cases h

theorem open_fields {n m : Nat} (ih : Opens P enc w sp held n) {cs : List Value} : ∀ {fs : List Field} {o : Nat} {sh : Sh} {xs : List (DataW H × List MemPlace)}, shF P (shOf P n) fs o cs.length = some sh → fs.length = xs.length →
    (∀ (i : Nat) (f : Field), fs[i]? = some f → DataW.trod enc P w 0 sp held m f.type ((cs.drop f.offset).take (P.cellsOf f.type)) = xs[i]?) → (∀ x ∈ DataW.weightsEach P (fs.map (·.type)) (xs.map (·.1)), x ≤ reachBytes) →
    ∃ pvs, pvOf sh (xs.map (·.1)) = some pvs ∧ wt sh pvs ∧ F2 (Rp (allF w) w) pvs (cs.drop o)
  | [], o, sh, xs, h, hl, hr, hw => by
    simp only [shF] at h
    split at h
    · rename_i e
      simp at e
      subst e
      cases h
      have : xs = [] := by simpa using hl.symm
      subst this
      exact ⟨[], rfl, rfl, by simpa using F2.nil⟩
    · cases h
  | f :: r, o, sh, xs, h, hl, hr, hw => by
    simp only [shF] at h
    split at h
    · rename_i s q e h2 h3
      simp only [Option.some.injEq] at h
      subst h
      simp at e
      subst e
      cases xs with
      | nil => simp at hl
      | cons x xs =>
        obtain ⟨d, p⟩ := x
        simp only [List.map_cons, DataW.weightsEach, List.mem_append] at hw
        obtain ⟨a, a1, a2, a3⟩ := ih m f.type _ d p s (hr 0 f rfl) h2 fun x hx => hw x (.inl hx)
        obtain ⟨b, b1, b2, b3⟩ := open_fields ih h3 (by simpa using hl) (fun i g hg => by simpa using hr (i + 1) g (by simpa using hg)) fun x hx => hw x (.inr hx)
        have hle := shF_le h3
        have hal : a.length = P.cellsOf f.type := by
          rw [a3.len, List.length_take, List.length_drop]
          omega
        refine ⟨a ++ b, by simp [pvOf, a1, b1], ⟨a, b, rfl, hal, a2, b2⟩, ?_⟩
        have := a3.app b3
        rwa [show cs.drop (f.offset + P.cellsOf f.type) = (cs.drop f.offset).drop (P.cellsOf f.type) by rw [List.drop_drop], List.take_append_drop] at this
    · cases h

theorem weightsAll_mem {e : TypeId} : ∀ {ds : List (DataW H)} {d : DataW H} {x : Nat}, d ∈ ds → x ∈ d.weights P e → x ∈ DataW.weightsAll P e ds
  | d' :: r, d, x, h, hx => by
    simp only [DataW.weightsAll, List.mem_append]
    rcases List.mem_cons.1 h with h | h
    · subst h; exact .inl hx
    · exact .inr (weightsAll_mem h hx)

theorem open_array {n m k N : Nat} (ih : Opens P enc w sp held n) {e : TypeId} {s : Sh} (hs : shOf P n e = some s) (hk : P.cellsOf e = k) {cs : List Value} (hc : cs.length = N * k) {xs : List (DataW H × List MemPlace)} (hl : xs.length = N)
    (hr : ∀ i, i < N → DataW.trod enc P w 0 sp held m e ((cs.drop (i * k)).take k) = xs[i]?) (hw : ∀ d ∈ xs.map (·.1), ∀ x ∈ d.weights P e, x ≤ reachBytes) :
    ∀ (j i : Nat), i + j = N → ∃ rs : List (List PV), omap (fun d => pvOf s [d]) ((xs.drop i).map (·.1)) = some rs ∧ rs.length = j ∧ (∀ r ∈ rs, r.length = k ∧ wt s r) ∧ F2 (Rp (allF w) w) rs.flatten (cs.drop (i * k)) := by
  intro j
  induction j with
  | zero =>
    intro i hi
    have h1 : xs.drop i = [] := List.drop_eq_nil_of_le (by omega)
    have h2 : cs.drop (i * k) = [] := List.drop_eq_nil_of_le (by rw [hc, show i = N by omega]; exact Nat.le_refl _)
    exact ⟨[], by rw [h1]; rfl, rfl, (fun _ h => by cases h), by rw [h2]; exact .nil⟩
  | succ j ihj =>
    intro i hi
    obtain ⟨rs, r1, r2, r3, r4⟩ := ihj (i + 1) (by omega)
    have hlt : i < xs.length := by omega
    have hx : xs.drop i = xs[i] :: xs.drop (i + 1) := List.drop_eq_getElem_cons hlt
    obtain ⟨a, a1, a2, a3⟩ := ih m e _ xs[i].1 xs[i].2 s ((hr i (by omega)).trans (List.getElem?_eq_getElem hlt)) hs (hw _ (List.mem_map.2 ⟨xs[i], List.getElem_mem hlt, rfl⟩))
    have hle : (i + 1) * k ≤ cs.length := by rw [hc]; exact Nat.mul_le_mul_right k (by omega)
    have hal : a.length = k := by
      rw [a3.len, List.length_take, List.length_drop]
      rw [Nat.add_mul] at hle
      omega
    refine ⟨a :: rs, by rw [hx, List.map_cons]; simp only [omap, a1, r1], by simp [r2], fun r hr => ?_, ?_⟩
    · rcases List.mem_cons.1 hr with e | hr
      · subst e; exact ⟨hal, a2⟩
      · exact r3 r hr
    · have := a3.app r4
      rwa [show cs.drop ((i + 1) * k) = (cs.drop (i * k)).drop k by rw [List.drop_drop]; congr 1; rw [Nat.add_mul]; omega, List.take_append_drop] at this

theorem cells?_get {base : Nat} {a : Addr} {n : Nat} {cs : List Value} (h : w.cells? base a n = some cs) : cs.length = n ∧ ∀ j, j < n → w.cell? (a.add j) = cs[j]? := by
  unfold World.cells? at h
  split at h
  · refine ⟨by simpa using mapM_some_length h, fun j hj => mapM_some_get h j j (by simp [hj])⟩
  · cases h

theorem open_elems {n m k N : Nat} (ih : Opens P enc w sp held n) {e : TypeId} {s : Sh} (hs : shOf P n e = some s) (_hk : P.cellsOf e = k) {a : Addr} {xs : List (DataW H × List MemPlace)} (hl : xs.length = N)
    (hr : ∀ i, i < N → (w.cells? 0 (a.add (i * k)) k).bind (DataW.trod enc P w 0 sp held m e) = xs[i]?) (hw : ∀ d ∈ xs.map (·.1), ∀ x ∈ d.weights P e, x ≤ reachBytes) :
    ∀ (j i : Nat), i + j = N → ∃ rs : List (List PV), omap (fun d => pvOf s [d]) ((xs.drop i).map (·.1)) = some rs ∧ rs.length = j ∧ (∀ r ∈ rs, r.length = k ∧ wt s r) ∧
      ∀ (q : Nat) (r : List PV), rs[q]? = some r → ∃ ccs, w.cells? 0 (a.add ((i + q) * k)) k = some ccs ∧ F2 (Rp (allF w) w) r ccs := by
  intro j
  induction j with
  | zero =>
    intro i hi
    have h1 : xs.drop i = [] := List.drop_eq_nil_of_le (by omega)
    exact ⟨[], by rw [h1]; rfl, rfl, (fun _ h => by cases h), fun q r h => by simp at h⟩
  | succ j ihj =>
    intro i hi
    obtain ⟨rs, r1, r2, r3, r4⟩ := ihj (i + 1) (by omega)
    have hlt : i < xs.length := by omega
    have hx : xs.drop i = xs[i] :: xs.drop (i + 1) := List.drop_eq_getElem_cons hlt
    have h0 := (hr i (by omega)).trans (List.getElem?_eq_getElem hlt)
    obtain ⟨ccs, c1, c2⟩ := Option.bind_eq_some_iff.1 h0
    obtain ⟨p, a1, a2, a3⟩ := ih m e _ xs[i].1 xs[i].2 s c2 hs (hw _ (List.mem_map.2 ⟨xs[i], List.getElem_mem hlt, rfl⟩))
    have hal : p.length = k := by rw [a3.len, (cells?_get c1).1]
    refine ⟨p :: rs, by rw [hx, List.map_cons]; simp only [omap, a1, r1], by simp [r2], fun r hr => ?_, fun q r hq => ?_⟩
    · rcases List.mem_cons.1 hr with e | hr
      · subst e; exact ⟨hal, a2⟩
      · exact r3 r hr
    · cases q with
      | zero => simp at hq; subst hq; exact ⟨ccs, c1, a3⟩
      | succ q =>
        simp at hq
        obtain ⟨c', h1, h2⟩ := r4 q r hq
        exact ⟨c', by rw [show i + (q + 1) = i + 1 + q by omega]; exact h1, h2⟩

theorem opens : ∀ n, Opens P enc w sp held n
  | 0 => by intro fuel t cs d p sh h hs; simp [shOf] at hs
  | n + 1 => by
    intro fuel t cs d p sh h hs hw
    simp only [shOf] at hs
    split at hs
    · rename_i ht
      cases hs
      cases fuel with
      | zero => simp [DataW.trod] at h
      | succ fuel =>
        unfold DataW.trod at h
        rw [ht] at h
        split at h <;> simp_all
        obtain ⟨rfl, -⟩ := h
        exact ⟨_, rfl, ⟨_, rfl⟩, .cons (.bool _) .nil⟩
    · rename_i k ht
      cases hs
      cases fuel with
      | zero => simp [DataW.trod] at h
      | succ fuel =>
        unfold DataW.trod at h
        rw [ht] at h
        split at h <;> simp_all
        obtain ⟨⟨rfl, h1⟩, rfl, -⟩ := h
        refine ⟨_, rfl, ⟨_, rfl, ?_⟩, .cons (.int _ _) .nil⟩
        simpa [Lit.wf] using h1
    · rename_i ht
      cases hs
      cases fuel with
      | zero => simp [DataW.trod] at h
      | succ fuel =>
        unfold DataW.trod at h
        rw [ht] at h
        split at h <;> simp_all
        obtain ⟨h1, rfl, -⟩ := h
        refine ⟨_, rfl, ⟨_, rfl, ?_⟩, .cons (.str _) .nil⟩
        exact hw _ (by simp [DataW.weights])
    · rename_i e ht
      split at hs
      · rename_i s h1 h2
        simp only [Option.some.injEq] at hs
        subst hs
        simp only [decide_eq_true_eq] at h2
        rcases DataW.trod_slice ht h with ⟨rfl, hx⟩ | ⟨a, len, cap, elems, rest, m, rfl, rfl, hx, -, hle, hcap, hlen, hel, -, -⟩
        · cases hx
          exact ⟨_, rfl, ⟨[], rfl, by simp, by simp, (fun _ h => by cases h)⟩, .cons (.sl0 _ _) .nil⟩
        · cases hx
          simp only [DataW.weights, ht, List.mem_cons, List.mem_append] at hw
          obtain ⟨rs, r1, r2, r3, r4⟩ := open_elems (opens n) h1 rfl hlen hel (fun d hd x hx => hw x (.inr (.inl (weightsAll_mem hd hx)))) len 0 (by omega)
          have hb := hw _ (.inl rfl)
          refine ⟨[.sl rs], by simp only [pvOf]; rw [show elems.map (·.1) = (elems.drop 0).map (·.1) by simp, r1], ⟨rs, rfl, ?_, ?_, r3⟩, .cons ?_ .nil⟩
          · refine Nat.le_trans (Nat.mul_le_mul_right _ ?_) hb
            simp only [List.length_map]
            omega
          · omega
          · rw [← r2]
            refine Rp.of_slAt ?_ rfl (by omega)
            cases rs with
            | nil => exact .inl rfl
            | cons r0 rs' =>
              right
              have h0 : 0 < P.cellsOf e := h2
              obtain ⟨c0, q1, q2⟩ := r4 0 r0 rfl
              obtain ⟨q3, q4⟩ := cells?_get q1
              have q5 := q4 0 h0
              have hsp := World.cell?_spot (w := w) (a := (a.add ((0 + 0) * P.cellsOf e)).add 0) (v := c0[0]'(by omega)) (by rw [q5]; exact List.getElem?_eq_getElem (by omega))
              obtain ⟨b, o, spot⟩ := a
              have hspot : spot = none := by simpa [Addr.add] using hsp
              subst hspot
              refine ⟨b, o, P.cellsOf e, rfl, h0, fun i r hi => ⟨(r3 r (List.mem_of_getElem? hi)).1, fun j c hc => ?_⟩⟩
              obtain ⟨c1, t1, t2⟩ := r4 i r hi
              obtain ⟨t3, t4⟩ := cells?_get t1
              obtain ⟨v, v1, v2⟩ := t2.get hc
              have hj : j < P.cellsOf e := by rw [← t3]; exact (List.getElem?_eq_some_iff.1 v1).1
              have := t4 j hj
              rw [v1] at this
              have e1 : ((Addr.mk b o none).add ((0 + i) * P.cellsOf e)).add j = ⟨b, o + i * P.cellsOf e + j, none⟩ := by rw [Go.WideShapes.add_plain, Go.WideShapes.add_plain]; simp
              rw [e1] at this
              exact ⟨by simp [allF, this], v, this, v2⟩
      · cases hs
    · rename_i fs ht
      split at hs
      · rename_i r h1
        simp only [Option.some.injEq] at hs
        subst hs
        obtain ⟨xs, m, rfl, hx, hl, hlen, hf⟩ := DataW.trod_struct ht h
        cases hx
        simp only [DataW.weights, ht] at hw
        rw [← hl] at h1
        obtain ⟨pvs, p1, p2, p3⟩ := open_fields (opens n) h1 (by simp [hlen]) (fun i f hi => hf i f (by simpa using hi)) (by simpa using hw)
        exact ⟨pvs, p1, p2, by simpa using p3⟩
      · cases hs
    · rename_i N e ht
      split at hs
      · rename_i s h1 h2
        simp only [Option.some.injEq] at hs
        subst hs
        simp only [beq_iff_eq] at h2
        obtain ⟨xs, m, rfl, hx, hl, hlen, hf⟩ := DataW.trod_array ht h
        cases hx
        simp only [DataW.weights, ht] at hw
        obtain ⟨rs, r1, r2, r3, r4⟩ := open_array (opens n) h1 rfl (hl.trans h2.symm) hlen hf (fun d hd x hx => hw x (weightsAll_mem hd hx)) N 0 (by omega)
        refine ⟨rs.flatten, by simp only [pvOf]; rw [show xs.map (·.1) = (xs.drop 0).map (·.1) by simp, r1], ⟨rs, rfl, r2, r3⟩, by simpa using r4⟩
      · cases hs
    · cases hs
end
end Go.Ab

namespace Go.Ab
open Go Go.ChangeShapes Go.RowKit

def argAV : Sh → List PV → AV
  | .st _, cs => .agg cs
  | .arr .., cs => .agg cs
  | _, [p] => .c (.p p)
  | _, _ => .un

def argAVs : List Sh → List (List PV) → List AV
  | s :: r, p :: q => argAV s p :: argAVs r q
  | _, _ => []

def wts : List Sh → List (List PV) → Prop
  | [], [] => True
  | s :: r, p :: q => wt s p ∧ wts r q
  | _, _ => False

def pvsOf {H : Type} : List Sh → List (DataW H) → Option (List (List PV))
  | [], [] => some []
  | s :: r, d :: ds => match pvOf s [d], pvsOf r ds with
    | some a, some l => some (a :: l)
    | _, _ => none
  | _, _ => none

section
variable {H : Type} {enc : TypeId × Value → H} {P : Program} {w : World} {sp : Nat → Bool} {held : Bool}

theorem arg_open {n : Nat} {t : TypeId} {v : Value} {d : DataW H} {p : List MemPlace} {sh : Sh} {base : Nat} (h : DataW.Trod enc P w 0 sp held t v d p) (hv : Value.okWide P w .any base t v) (hs : shOf P n t = some sh) (hw : ∀ x ∈ d.weights P t, x ≤ reachBytes)
    (φ : Pl) (Hh : Hp) : ∃ pvs, pvOf sh [d] = some pvs ∧ wt sh pvs ∧ AR φ Hh (allF w) w (argAV sh pvs) v := by
  obtain ⟨fuel, h⟩ := h
  obtain ⟨pvs, h1, h2, h3⟩ := opens n fuel t _ d p sh h hs hw
  refine ⟨pvs, h1, h2, ?_⟩
  have scalar : (∀ cs, v ≠ .agg cs) → ∀ q, pvs = [q] → AR φ Hh (allF w) w (.c (.p q)) v := by
    intro ha q hq
    subst hq
    have hc : v.cells.toList = [v] := by
      cases v with
      | agg cs => exact absurd rfl (ha cs)
      | _ => rfl
    rw [hc] at h3
    cases h3 with
    | cons h _ => exact .ofRp h
  cases n with
  | zero => simp [shOf] at hs
  | succ n =>
    simp only [shOf] at hs
    unfold Value.okWide at hv
    split at hs
    · rename_i ht
      cases hs
      obtain ⟨b, rfl⟩ := h2
      refine scalar (fun cs e => ?_) _ rfl
      subst e; rw [ht] at hv; simp [Cell.okWide, Cell.ok, ht] at hv
    · rename_i k ht
      cases hs
      obtain ⟨b, rfl, -⟩ := h2
      refine scalar (fun cs e => ?_) _ rfl
      subst e; rw [ht] at hv; simp [Cell.okWide, Cell.ok, ht] at hv
    · rename_i ht
      cases hs
      obtain ⟨b, rfl, -⟩ := h2
      refine scalar (fun cs e => ?_) _ rfl
      subst e; rw [ht] at hv; simp [Cell.okWide, Cell.ok, ht] at hv
    · rename_i e ht
      split at hs
      · cases hs
        obtain ⟨b, rfl, -⟩ := h2
        refine scalar (fun cs e => ?_) _ rfl
        subst e; rw [ht] at hv; simp [Cell.okWide, Cell.ok, ht] at hv
      · cases hs
    · rename_i fs ht
      split at hs
      · cases hs
        rw [ht] at hv
        obtain ⟨cs, rfl, -⟩ := hv
        have := AR.one (φ := φ) (H := Hh) (AR1.agg h3)
        simpa [Value.cells, argAV] using this
      · cases hs
    · rename_i N e ht
      split at hs
      · cases hs
        rw [ht] at hv
        obtain ⟨cs, rfl, -⟩ := hv
        have := AR.one (φ := φ) (H := Hh) (AR1.agg h3)
        simpa [Value.cells, argAV] using this
      · cases hs
    · cases hs

theorem args_open {n base : Nat} (φ : Pl) (Hh : Hp) : ∀ {ts : List TypeId} {vs : List Value} {ds : List (DataW H)} {p : List MemPlace} {shs : List Sh}, DataW.TrodAll enc P w 0 sp held ts vs ds p →
    (∀ (j : Nat) t v, ts[j]? = some t → vs[j]? = some v → Value.okWide P w .any base t v) → omap (shOf P n) ts = some shs → (∀ x ∈ DataW.weightsEach P ts ds, x ≤ reachBytes) →
    ∃ pvss, pvsOf shs ds = some pvss ∧ wts shs pvss ∧ F2 (AR φ Hh (allF w) w) (argAVs shs pvss) vs
  | [], vs, ds, p, shs, h, hv, hs, hw => by
    simp only [omap, Option.some.injEq] at hs
    subst hs
    cases vs <;> cases ds <;> simp [DataW.TrodAll] at h
    exact ⟨[], rfl, trivial, .nil⟩
  | t :: ts, vs, ds, p, shs, h, hv, hs, hw => by
    obtain ⟨v, vs', d, ds', p1, q1, rfl, rfl, rfl, h1, h2⟩ := trodAll_cons h
    simp only [omap] at hs
    split at hs
    · rename_i s l e1 e2
      simp only [Option.some.injEq] at hs
      subst hs
      simp only [DataW.weightsEach, List.mem_append] at hw
      obtain ⟨a, a1, a2, a3⟩ := arg_open h1 (hv 0 t v rfl rfl) e1 (fun x hx => hw x (.inl hx)) φ Hh
      obtain ⟨b, b1, b2, b3⟩ := args_open φ Hh h2 (fun j t' v' ht' hv' => hv (j + 1) t' v' (by simpa using ht') (by simpa using hv')) e2 fun x hx => hw x (.inr hx)
      exact ⟨a :: b, by simp [pvsOf, a1, b1], ⟨a2, b2⟩, .cons a3 b3⟩
    · cases hs

theorem trodAll_stays {W W' : World} (hl : laidOutB P = true) (hb : Below W.heap.size W W') : ∀ {ts : List TypeId} {vs : List Value} {ds : List (DataW H)} {p : List MemPlace}, (∀ t ∈ ts, P.readableRec t = true ∧ t < P.types.size) →
    DataW.TrodAll enc P W 0 (fun _ => true) true ts vs ds p → (∀ x ∈ p, x.block < W.heap.size) → DataW.TrodAll enc P W' 0 (fun b => decide (b < W.heap.size)) true ts vs ds p
  | [], vs, ds, p, _, h, _ => by
    cases vs <;> cases ds <;> simp [DataW.TrodAll] at h ⊢
    exact h
  | t :: ts, vs, ds, p, hr, h, hlt => by
    obtain ⟨v, vs', d, ds', p1, q1, rfl, rfl, rfl, h1, h2⟩ := trodAll_cons h
    exact ⟨p1, q1, Below.trod hl (hr t (by simp)).1 (hr t (by simp)).2 h1 hb (fun x hx => hlt x (by simp [hx])), trodAll_stays hl hb (fun t ht => hr t (by simp [ht])) h2 (fun x hx => hlt x (by simp [hx])), rfl⟩

/-- What a listed variable holds, by one look at the tables. -/
def laidPV (P : Program) (n : Nat) (g : Nat) (d : DataW Unit) : Option (List PV) :=
  match (P.globals[g]?).map (·.type) with
  | some t => match shOf P n t, (d.weights P t).all (· ≤ reachBytes) with
    | some sh, true => pvOf sh [d]
    | _, _ => none
  | none => none

/-- The row's contract, out of the law of abstract values: 'true, whatever the input; the input reads as it did'. -/
theorem law_calls {G : Gl} {g : FuncId} {fn : Func} {s : ChangeSpec} {shs : List Sh} (n : Nat) (hsh : omap (shOf P n) fn.params.toList = some shs) (hl : laidOutB P = true) (hr : fn.params.toList.all (fun t => P.readableRec t && decide (t < P.types.size)) = true)
    {tb : TypeId} (hres : fn.resultTypes = #[tb]) (htb : P.underlying tb = some .bool) (hvars : s.vars = []) {fresh handsOn : Bool}
    {W : World} {base : Nat} {args : Array Value} {ds gs : List (DataW H)} {before : List MemPlace}
    (hspec : ∀ {ds : List (DataW H)}, ds.length = fn.params.size → s.fn H ds = { results := [.lit (.bool true)], args := ds })
    (hval : ∀ (j : Nat) t v, fn.params[j]? = some t → args[j]? = some v → Value.okWide P W .any base t v) (hW : DataW.Whole enc P fn.params.toList s.vars false W args.toList ds gs before)
    (hwt : (DataW.weightsEach P (fn.params.toList ++ s.plain.varTypes P) (ds ++ gs)).all (· ≤ reachBytes) = true)
    (hG : ∀ g cs, G g = some cs → At (allF W) W g 0 cs)
    (law : ∀ pvss, wts shs pvss → pvsOf shs ds = some pvss → EvP P G g (argAVs shs pvss) (.c (.p (.bool true)))) :
    Calls P g args W fun e W' => ∃ v, e = .returned v ∧ s.post enc P fn false fresh handsOn false W args v W' := by
  have hW' := hW
  obtain ⟨p, q, hA, hV, rfl, hfz, hnd⟩ := hW
  rw [hvars] at hV
  obtain ⟨rfl, rfl⟩ := trodVars_none hV
  have hlen : ds.length = fn.params.size := by
    have : ∀ {ts : List TypeId} {vs : List Value} {ds : List (DataW H)} {p : List MemPlace}, DataW.TrodAll enc P W 0 (fun _ => true) true ts vs ds p → ds.length = ts.length := by
      intro ts
      induction ts with
      | nil => intro vs ds p h; cases vs <;> cases ds <;> simp [DataW.TrodAll] at h; rfl
      | cons t ts ih =>
        intro vs ds p h
        obtain ⟨v, vs', d, ds', p1, q1, rfl, rfl, rfl, h1, h2⟩ := trodAll_cons h
        simp [ih h2]
    simpa using this hA
  have hvt : s.plain.varTypes P = [] := by simp [ChangeSpec.plain, DataSpec.varTypes, hvars]
  rw [hvt, List.append_nil, List.append_nil] at hwt
  obtain ⟨pvss, h1, h2, h3⟩ := args_open (w := W) (fun _ => none) ⟨[], []⟩ hA (fun j t v ht hv => hval j t v (by simpa using ht) (by simpa using hv)) hsh fun x hx => by simpa using List.all_eq_true.1 hwt x hx
  obtain ⟨-, -, hE⟩ := law pvss h2 h1
  have hS : SRel G (fun _ => none) ⟨[], []⟩ (allF W) W :=
    ⟨(fun _ _ _ h => by cases h), (fun _ _ h => by cases h), (fun _ _ h => by cases h), (fun id b h => by cases id <;> simp [Hp.get] at h), hG, fun b o f => by
      obtain ⟨v, hv⟩ := Option.isSome_iff_exists.1 f
      exact World.block_lt_of_cell? _ _ hv⟩
  have hC := hE.2 _ _ _ _ hS h3
  refine (show Calls P g args W _ from hC).mono fun e W' ⟨r, H', φ', F', x, hr', he, E, S, A⟩ => ?_
  subst hr'
  have hx : x = .bool true := by
    cases A with
    | one h => cases h with
      | c h _ => cases h; rfl
  subst hx
  have hB : Below W.heap.size W W' := ⟨E.os, E.tape, E.output, E.size, fun k hk => E.keep k hk fun _ h => by cases h⟩
  have hlt : ∀ x ∈ p, x.block < W.heap.size := fun x hx => hW'.lt x (by simpa using hx)
  refine ⟨_, he, ds, [], p ++ [], [], p, [], hW', ?_, ?_, ?_, hB.frame _, fun h => by cases h⟩
  · rw [List.append_nil, hspec hlen, hres]
    exact ⟨[], [], ⟨1, by simp [DataW.trod, Value.cells, htb]⟩, rfl, rfl⟩
  · rw [List.append_nil, hspec hlen]
    exact trodAll_stays hl hB (fun t ht => by simpa using List.all_eq_true.1 hr t ht) hA hlt
  · rw [List.append_nil, hspec hlen, hvars]
    rfl
end
end Go.Ab

namespace Go.Ab
open Go

def allEq {α : Type} (f : α → α → Bool) : List α → List α → Bool
  | [], [] => true
  | a :: r, b :: q => f a b && allEq f r q
  | _, _ => false
/-- Equality of values, down to a depth. -/
def pvEq : Nat → PV → PV → Bool
  | _, .int k n, .int k' n' => decide (k = k') && decide (n = n')
  | _, .bool a, .bool b => a == b
  | _, .str s, .str t => decide (s = t)
  | d + 1, .sl es, .sl fs => allEq (allEq (pvEq d)) es fs
  | _, _, _ => false
def avEq1 : AV → AV → Bool
  | .c (.p v), .c (.p w) => pvEq 20 v w
  | .agg a, .agg b => allEq (pvEq 20) a b
  | _, _ => false
def avEq : AV → AV → Bool
  | .tup a, .tup b => allEq avEq1 a b
  | a, b => avEq1 a b
def rEq (r : Option (AV × Hp)) (v : AV) : Bool := match r with
  | some (a, _) => avEq a v
  | _ => false
theorem wts_cons {s : Sh} {r : List Sh} {l : List (List PV)} (h : wts (s :: r) l) : ∃ p q, l = p :: q ∧ wt s p ∧ wts r q := by
  cases l with
  | nil => exact h.elim
  | cons p q => exact ⟨p, q, rfl, h.1, h.2⟩
theorem wts_nil {l : List (List PV)} (h : wts [] l) : l = [] := by
  cases l with
  | nil => rfl
  | cons p q => exact h.elim
end Go.Ab

namespace Go.Ab
open Go Go.RowKit

section
variable {P : Program} {G : Gl} {N : Nat} {φ φ' : Pl} {H H' : Hp} {F F' : Cl} {w w' : World} {T T' : Tm}

theorem cells_eq {W W' : World} {b : Nat} (h : W'.heap[b]? = W.heap[b]? ∨ NoCells W b ∧ NoCells W' b) : (∀ o, W'.cell? ⟨b, o, none⟩ = W.cell? ⟨b, o, none⟩) ∧ W'.shape? b = W.shape? b ∧ ∀ c, Own W b c → Own W' b c := by
  rcases h with h | ⟨h1, h2⟩
  · exact ⟨fun o => cell_of_heap h, shape_of_heap h, fun c ⟨e, he⟩ => ⟨e, h.trans he⟩⟩
  · have e1 : ∀ {W : World}, NoCells W b → (∀ o, W.cell? ⟨b, o, none⟩ = none) ∧ W.shape? b = none := by
      intro W h
      refine ⟨fun o => ?_, ?_⟩
      · unfold World.cell?
        split
        · rename_i c e f h'; exact absurd h' (h c e f)
        · rfl
      · unfold World.shape?
        split
        · rename_i c e f h'; exact absurd h' (h c e f)
        · rfl
    exact ⟨fun o => by rw [(e1 h1).1, (e1 h2).1], by rw [(e1 h1).2, (e1 h2).2], fun c ⟨e, he⟩ => absurd he (h1 _ _ _)⟩

/-- Blocks that are no cells turned, and others laid: memory is as it was. -/
theorem evo_nc {W W' : World} (E : Evo φ H F w φ' H' F' W) (hS : SRel G φ' H' F' W) (hos : W'.os = W.os) (htp : W'.tape = W.tape) (hou : W'.output = W.output) (hsz : W.heap.size ≤ W'.heap.size)
    (hb : ∀ b, b < W.heap.size → W'.heap[b]? = W.heap[b]? ∨ w.heap.size ≤ b ∧ NoCells W b ∧ NoCells W' b) : Evo φ H F w φ' H' F' W' ∧ SRel G φ' H' F' W' := by
  have hb' : ∀ b, b < W.heap.size → W'.heap[b]? = W.heap[b]? ∨ NoCells W b ∧ NoCells W' b := fun b h => (hb b h).imp id fun q => q.2
  have kp : Keeps F' F' W W' := ⟨fun _ _ h => h, fun b o f => (cells_eq (hb' b (hS.fin b o f))).1 o⟩
  have old : ∀ b, b < w.heap.size → W'.heap[b]? = W.heap[b]? := fun b h => by
    rcases hb b (Nat.lt_of_lt_of_le h E.size) with h' | ⟨h', _⟩
    · exact h'
    · omega
  have E0 : Evo φ H F w φ' H' F' W' :=
    { os := hos.trans E.os, tape := htp.trans E.tape, output := hou.trans E.output, size := Nat.le_trans E.size hsz
      keep := fun r hr hn => (old r hr).trans (E.keep r hr hn)
      kp := E.kp.trans kp
      newF := E.newF
      new := E.new
      be := E.be
      shp := fun r hr => (shape_of_heap (old r hr)).trans (E.shp r hr)
      npar := E.npar }
  have hC : ∀ {c x}, CR φ' H' F' W c x → CR φ' H' F' W' c x := by
    intro c x h
    cases c with
    | p v => exact Rp.keeps kp h
    | rp cs => obtain ⟨b, o, e, h⟩ := h; exact ⟨b, o, e, h.keeps kp⟩
    | ti es => obtain ⟨a, e, h⟩ := h; exact ⟨a, e, h.keeps kp⟩
    | os id n =>
      obtain ⟨sz, fz, es, h1, h2, h3⟩ := h
      refine ⟨sz, fz, es, h1, h2, fun e => ?_⟩
      rcases h3 e with h | ⟨r, cap, e', k, q1, q2, q3, q4, q5, q6⟩
      · exact .inl h
      · exact .inr ⟨r, cap, e', k, q1, q2, q3, q4, ((cells_eq (hb' r (lt_of_shape q5))).2.1).trans q5, q6⟩
    | _ => exact h
  refine ⟨E0, hS.inj, fun i r h => Nat.lt_of_lt_of_le (hS.dom i r h) hsz, hS.has, fun id b h => ?_, fun g cs h => (hS.glob g cs h).keeps kp, fun b o f => Nat.lt_of_lt_of_le (hS.fin b o f) hsz⟩
  have own : ∀ {r c}, Own W r c → Own W' r c := fun {r c} h => (cells_eq (hb' r (by obtain ⟨e, he⟩ := h; exact (Array.getElem?_eq_some_iff.1 he).1))).2.2 c h
  have hB := hS.blk id b h
  cases b with
  | row cs => obtain ⟨r, c, h1, h2, h3, h4⟩ := hB; exact ⟨r, c, h1, own h2, h3, h4.imp fun _ _ q => q.keeps kp⟩
  | mrow cs => obtain ⟨r, c, h1, h2, h3, h4⟩ := hB; exact ⟨r, c, h1, own h2, h3, h4.imp fun _ _ q => ⟨hC q.1, q.2⟩⟩
  | arr sz fz es =>
    obtain ⟨h0, h1, h2⟩ := hB
    refine ⟨h0, h1, ?_⟩
    rcases h2 with h2 | ⟨r, c, h2, h3, h4, h5, h6, h7, h8⟩
    · exact .inl h2
    · refine .inr ⟨r, c, h2, own h3, h4, h5, h6, h7, fun i q j u hq hu => ?_⟩
      obtain ⟨x, hx, hr⟩ := h8 i q j u hq hu
      exact ⟨x, hx, hr.keeps kp⟩
  | hole => exact hB

theorem evo_putObj {W : World} (E : Evo φ H F w φ' H' F' W) (hS : SRel G φ' H' F' W) {l : Nat} {o o' : Obj} (hl : W.heap[l]? = some o) (hwl : w.heap.size ≤ l) (ho : o.isCells = false) (ho' : o'.isCells = false) :
    Evo φ H F w φ' H' F' (W.putObj l o') ∧ SRel G φ' H' F' (W.putObj l o') := by
  refine evo_nc E hS rfl rfl rfl (by simp [World.putObj]) fun b hb => ?_
  by_cases e : b = l
  · subst e
    refine .inr ⟨hwl, fun c e f h => ?_, fun c e f h => ?_⟩
    · rw [hl] at h; cases h; simp [Obj.isCells] at ho
    · rw [World.putObj_heap_same (Array.getElem?_eq_some_iff.1 hl).1] at h; cases h; simp [Obj.isCells] at ho'
  · exact .inl (World.putObj_heap_other e)

theorem evo_grown {W W' : World} (E : Evo φ H F w φ' H' F' W) (hS : SRel G φ' H' F' W) (hg : W.grownBy W' none) : Evo φ H F w φ' H' F' W' ∧ SRel G φ' H' F' W' :=
  evo_nc E hS hg.os hg.tape hg.output hg.size fun b hb => .inl (hg.block b hb (by simp))

/-- An iterator that hands over the numbers of a list, in order, and lays nothing but new blocks. -/
def SeqN (P : Program) (F : Cl) (gi : FuncId) (lb : Array Value) (xs : List Int) (w : World) : Prop :=
  ∀ (l : Nat) (J Jx : List Int → World → Prop) (W : World), Below w.heap.size w W → (∀ s A B, J s A → A.grownBy B none → J s B) → (∀ s A B, Jx s A → A.grownBy B none → Jx s B) →
    (∀ pre x W1, J pre W1 → pre ++ [x] <+: xs → YieldAt Fence.wide 5 P l #[.int .i64 x] W1 fun e W' =>
      (e = .returned (.bool true) ∧ J (pre ++ [x]) W' ∧ W1.heap.size ≤ W'.heap.size ∧ ∀ b o, F b o → W'.cell? ⟨b, o, none⟩ = W1.cell? ⟨b, o, none⟩) ∨ (e = .returned (.bool false) ∧ Jx (pre ++ [x]) W')) →
    J [] W →
    Calls P gi (#[.func (.yield l) #[] #[]] ++ lb) W fun e W' => (∃ v, e = .returned v) ∧ (J xs W' ∨ ∃ pre, Jx pre W')

theorem marks_inj : ∀ {x y : List Nat}, (x.map fun r => ({ target := .collected r, args := #[] } : Deferred)) = (y.map fun r => { target := .collected r, args := #[] }) → x = y
  | [], [], _ => rfl
  | [], _ :: _, h => by simp at h
  | _ :: _, [], h => by simp at h
  | a :: x, b :: y, h => by
    simp only [List.map_cons, List.cons.injEq, Deferred.mk.injEq, Target.collected.injEq, and_true] at h
    rw [h.1, marks_inj h.2]

def jumpOf : Ex → Option Code
  | .norm => none
  | .exit id => some (.exit id)
  | .ret => some .ret

theorem run_enterLoop {fr : Frame} (hr : RoundOk w fr.roundOf) (ps : Array Tmp) (ca cb : Code) : ∃ (l : Nat) (ms : List Nat) (W1 : World) (D : Nat),
    (Instr.enterLoop fr.fn fr.tmps ps ca cb fr.roundOf).run P w = .ok (l, ms.map fun r => { target := .collected r, args := #[] }) W1 ∧
    W1.heap[l]? = some (.loop { state := .ready, pending := none, fn := fr.fn, tmps := fr.tmps, params := ps, assign := ca, body := cb, defers := D }) ∧
    w.heap.size ≤ l ∧ ms.Nodup ∧ (∀ r ∈ ms, w.heap.size ≤ r ∧ W1.heap[r]? = some (.deferred (some []))) ∧ Below w.heap.size w W1 ∧ W1.os = w.os ∧ W1.tape = w.tape ∧ W1.output = w.output ∧ w.heap.size ≤ W1.heap.size ∧ (∀ b, b < w.heap.size → W1.heap[b]? = w.heap[b]?) := by
  cases hro : fr.roundOf with
  | none =>
    refine ⟨w.heap.size + 1, [w.heap.size], _, w.heap.size, run_enterLoop_outer _ _ _ _ _, ?_, by omega, by simp, ?_, ?_, rfl, rfl, rfl, by simp; omega, fun b hb => ?_⟩
    · have := World.alloc_heap_new (w.alloc (.deferred (some []))) (.loop { state := .ready, pending := none, fn := fr.fn, tmps := fr.tmps, params := ps, assign := ca, body := cb, defers := w.heap.size })
      rwa [World.size_alloc] at this
    · intro r hr
      simp at hr
      subst hr
      exact ⟨Nat.le_refl _, (Below.heap_alloc _ _ _ (by simp)).trans (World.alloc_heap_new w _)⟩
    · exact ((Below.refl _ w).alloc (Nat.le_refl _) _).alloc (by simp) _
    · exact (Below.heap_alloc _ _ _ (by simp; omega)).trans (Below.heap_alloc _ _ _ hb)
  | some l0 =>
    obtain ⟨r0, h0⟩ := hr l0 hro
    refine ⟨w.heap.size, [], _, r0.defers, run_enterLoop_inner h0 _ _ _ _ _, World.alloc_heap_new w _, Nat.le_refl _, by simp, by simp, (Below.refl _ w).alloc (Nat.le_refl _) _, rfl, rfl, rfl, by simp, fun b hb => Below.heap_alloc _ _ _ hb⟩

/-- A range over an iterator. -/
theorem sem_rf {f : Operand} {z : SA} {p : Nat} {ca cb : Code} {gi : FuncId} {caps : List Id} {K : Ex → Tm → Hp → Prop} (hz : compA f = some z) (hv : evS G T z = .c (.fn gi caps)) (hpn : p < N) (hgi : callable P gi = true) {xs : List Int}
    (hseq : ∀ φ F w (cv : List Value), SRel G φ H F w → F2 (fun id v => ∃ b r, H.get id = some b ∧ b.isRow = true ∧ φ id = some r ∧ v = .pointer (some ⟨r, 0, none⟩)) caps cv → SeqN P F gi cv.toArray xs w)
    (Inv : List Int → Hp → Prop) (Kx : Ex → Hp → Prop) (h0 : Inv [] H)
    (round : ∀ pre x H1, pre ++ [x] <+: xs → Inv pre H1 → SemC P G N ca (T.put (some p) (.c (.p (.int .i64 x)))) H1 fun e T2 H2 => e = .norm ∧ SemC P G N cb T2 H2 fun e T3 H3 => match e with | .norm => Inv (pre ++ [x]) H3 | e => Kx e H3)
    (done : ∀ H1, Inv xs H1 → K .norm T H1) (stop : ∀ e H1, e ≠ .norm → Kx e H1 → K e T H1) : SemC P G N (.rangeFunc f #[p] ca cb) T H K := by
  intro φ F w fr k cs base hp
  have hfv := eval_rel hp.srel hp.trel f z hz
  rw [hv] at hfv
  obtain ⟨cv, hcv, hcaps⟩ := hfv.cc.1
  obtain ⟨l, ms, W1, D, hent, hl1, hwl, hnd, hms, hB1, o1, o2, o3, hsz1, hold⟩ := run_enterLoop (P := P) hp.round #[p] ca cb
  obtain ⟨E1, S1⟩ := evo_nc (Evo.refl φ H F w) hp.srel o1 o2 o3 hsz1 fun b hb => .inl (hold b hb)
  obtain ⟨rec, hrec⟩ : ∃ rec : LoopState → Option Code → Loop, rec = fun st pe => { state := st, pending := pe, fn := fr.fn, tmps := fr.tmps, params := #[p], assign := ca, body := cb, defers := D } := ⟨_, rfl⟩
  have hl1' : W1.heap[l]? = some (.loop (rec .ready none)) := by rw [hrec]; exact hl1
  have hmne : ∀ r ∈ ms, r ≠ l := fun r hr e => by
    have := (hms r hr).2
    rw [e, hl1] at this
    cases this
  -- what is held between two rounds
  let J : List Int → World → Prop := fun pre W => ∃ φ' H' F', Inv pre H' ∧ Evo φ H F w φ' H' F' W ∧ SRel G φ' H' F' W ∧ W.heap[l]? = some (.loop (rec .ready none)) ∧ ∀ r ∈ ms, W.heap[r]? = some (.deferred (some []))
  let Jx : List Int → World → Prop := fun _ W => ∃ e φ' H' F', e ≠ .norm ∧ Kx e H' ∧ Evo φ H F w φ' H' F' W ∧ SRel G φ' H' F' W ∧ W.heap[l]? = some (.loop (rec .done (jumpOf e))) ∧ ∀ r ∈ ms, W.heap[r]? = some (.deferred (some []))
  have hgr : ∀ {A B : World} {o : Obj} {r : Nat}, A.grownBy B none → A.heap[r]? = some o → B.heap[r]? = some o := fun hg h => (hg.block _ (Array.getElem?_eq_some_iff.1 h).1 (by simp)).trans h
  have hJ : ∀ s A B, J s A → A.grownBy B none → J s B := by
    rintro s A B ⟨φ', H', F', h1, h2, h3, h4, h5⟩ hg
    obtain ⟨E', S'⟩ := evo_grown h2 h3 hg
    exact ⟨φ', H', F', h1, E', S', hgr hg h4, fun r hr => hgr hg (h5 r hr)⟩
  have hJx : ∀ s A B, Jx s A → A.grownBy B none → Jx s B := by
    rintro s A B ⟨e, φ', H', F', h0, h1, h2, h3, h4, h5⟩ hg
    obtain ⟨E', S'⟩ := evo_grown h2 h3 hg
    exact ⟨e, φ', H', F', h0, h1, E', S', hgr hg h4, fun r hr => hgr hg (h5 r hr)⟩
  have hcall := hseq φ F w cv hp.srel hcaps l J Jx W1 hB1 hJ hJx ?_ ⟨φ, H, F, h0, E1, S1, hl1', fun r hr => (hms r hr).2⟩
  · -- behind the iterator
    let c : Frame := { fr with todo := .inRangeFunc l :: k, defers := (ms.map fun r => ({ target := .collected r, args := #[] } : Deferred)) ++ fr.defers }
    have hat : ∀ (ds : List Deferred) (t : List Item), ({ fr with todo := t, defers := ds } : Frame) = fr.atR { tmps := fr.tmps, defers := ds } t := fun ds t => by simp [Frame.atR, ← hp.run]
    have hrun : ∀ (xs : Array Value) (W : World), (callFunc gi xs).run P W = .ok (.enter gi xs) W := by
      intro xs W
      have hgi' := hgi
      unfold callable at hgi'
      split at hgi'
      · rename_i fn hfn
        simp only [Bool.and_eq_true, Bool.not_eq_true'] at hgi'
        have hb : ¬ fn.body = none := by
          intro hbb
          rw [hbb] at hgi'
          simp at hgi'
        have hn : ¬ fn.name = "runtime.NumGoroutine" := by
          have := hgi'.2
          simpa using this
        simp [callFunc, hfn, hn, hb]
      · cases hgi'
    have henter : step P (lone { fr with todo := .code (.rangeFunc f #[p] ca cb) :: k } cs w) = .next (lone (Frame.enter P gi (#[.func (.yield l) #[] #[]] ++ cv.toArray) .normal) (c :: cs) W1) := by
      have h1 : ({ fr with todo := .code (.rangeFunc f #[p] ca cb) :: k } : Frame) = fr.atR { tmps := fr.tmps, defers := fr.defers } (.code (.rangeFunc f #[p] ca cb) :: k) := hat fr.defers _
      have hg : ({ tmps := fr.tmps, defers := fr.defers } : Act).eval f = .func (.func gi) #[] cv.toArray := by rw [← hcv]; cases f <;> rfl
      rw [h1, show c = fr.atR { tmps := fr.tmps, defers := (ms.map fun r => ({ target := .collected r, args := #[] } : Deferred)) ++ fr.defers } (.inRangeFunc l :: k) from hat _ _]
      refine stepR_rangeFunc (d := { target := .fn (.func gi) cv.toArray, args := #[.func (.yield l) #[] #[]] }) (w₁' := W1) hent ?_ ?_
      · simp only [resolve, hg]
        simp [go_sem]
      · simp [invoke, go_sem, hrun]
    obtain ⟨e, W2, fr2, ⟨⟨v, rfl⟩, hpost⟩, hcomes, hfn, hleave⟩ := hcall (c :: cs)
    have hfin : c.finish v = { c with todo := .endRangeFunc l :: k } := by simp [c, Frame.finish]
    have hsteps : Steps P (lone { fr with todo := .code (.rangeFunc f #[p] ca cb) :: k } cs w) (lone { c with todo := .endRangeFunc l :: k } cs W2) := by
      refine .head henter (Steps.trans hcomes (.one ?_))
      rw [← hfin]
      exact step_leave_returned hleave
    have hds : ∀ {W : World}, (∀ r ∈ ms, W.heap[r]? = some (.deferred (some []))) → DOk W base fr.defers → DOk W base ((ms.map fun r => ({ target := .collected r, args := #[] } : Deferred)) ++ fr.defers) := by
      rintro W hm ⟨rs, q1, q2, q3⟩
      refine ⟨ms ++ rs, by rw [q1, List.map_append], ?_, ?_⟩
      · refine List.nodup_append.2 ⟨hnd, q2, fun a ha b hb e => ?_⟩
        subst e
        obtain ⟨rs', q1', -, q3'⟩ := hp.defers
        have : rs = rs' := by
          have := q1.symm.trans q1'
          exact marks_inj this
        subst this
        have h1 := (hms a ha).1
        have h2 := (Array.getElem?_eq_some_iff.1 (q3' a hb).2).1
        omega
      · intro r hr
        rcases List.mem_append.1 hr with h | h
        · exact ⟨Nat.le_trans hp.base (hms r h).1, hm r h⟩
        · exact q3 r h
    have finish : ∀ (e : Ex) (st : LoopState) (φ' : Pl) (H' : Hp) (F' : Cl), st ≠ .busy → K e T H' → Evo φ H F w φ' H' F' W2 → SRel G φ' H' F' W2 → W2.heap[l]? = some (.loop (rec st (jumpOf e))) → (∀ r ∈ ms, W2.heap[r]? = some (.deferred (some []))) →
        ∃ e T' H' φ' F' w' tmps' ds', K e T' H' ∧ Evo φ H F w φ' H' F' w' ∧ Pre G N base φ' H' F' w' T' { fr with tmps := tmps', defers := ds' } ∧ Goes P fr (.code (.rangeFunc f #[p] ca cb)) k cs w e { fr with tmps := tmps', defers := ds' } w' := by
      intro e st φ' H' F' hst hK E2 S2 hl2 hm2
      have hend := run_endLoop (P := P) hl2 (by rw [hrec]; exact hst)
      obtain ⟨E3, S3⟩ := evo_putObj E2 S2 (o' := .loop { rec st (jumpOf e) with state := .exhausted }) hl2 hwl rfl rfl
      have hm3 : ∀ r ∈ ms, (W2.putObj l (.loop { rec st (jumpOf e) with state := .exhausted })).heap[r]? = some (.deferred (some [])) := fun r hr => (World.putObj_heap_other (hmne r hr)).trans (hm2 r hr)
      refine ⟨e, T, H', φ', F', _, fr.tmps, c.defers, hK, E3, { run := hp.run, size := hp.size, defers := hds hm3 (hp.defers.evo hp.srel E3), round := hp.round.evo hp.srel E3, base := Nat.le_trans hp.base E3.size, srel := S3, trel := hp.trel.evo E3 }, ?_⟩
      have hlast : step P (lone { c with todo := .endRangeFunc l :: k } cs W2) = .next (lone { c with todo := ((jumpOf e).map Item.code).toList ++ k } cs (W2.putObj l (.loop { rec st (jumpOf e) with state := .exhausted }))) := by
        have hend := hend.trans (show Result.ok (rec st (jumpOf e)).pending (W2.putObj l (.loop { rec st (jumpOf e) with state := .exhausted })) = .ok (jumpOf e) (W2.putObj l (.loop { rec st (jumpOf e) with state := .exhausted })) by rw [hrec])
        rw [show ({ c with todo := .endRangeFunc l :: k } : Frame) = fr.atR { tmps := fr.tmps, defers := (ms.map fun r => ({ target := .collected r, args := #[] } : Deferred)) ++ fr.defers } (.endRangeFunc l :: k) from hat _ _]
        rw [show ({ c with todo := ((jumpOf e).map Item.code).toList ++ k } : Frame) = fr.atR { tmps := fr.tmps, defers := (ms.map fun r => ({ target := .collected r, args := #[] } : Deferred)) ++ fr.defers } (((jumpOf e).map Item.code).toList ++ k) from hat _ _]
        exact stepR_endRangeFunc hend
      have hall := Steps.trans hsteps (.one hlast)
      cases e with
      | norm => exact hall
      | exit id => exact ⟨k, rfl, hall⟩
      | ret => exact ⟨k, hall⟩
    rcases hpost with ⟨φ', H', F', h1, h2, h3, h4, h5⟩ | ⟨_, e, φ', H', F', h0, h1, h2, h3, h4, h5⟩
    · exact finish .norm .ready φ' H' F' (by simp) (done H' h1) h2 h3 h4 h5
    · exact finish e .done φ' H' F' (by simp) (stop e H' h0 h1) h2 h3 h4 h5
  · -- a round
    rintro pre x W ⟨φ2, H2, F2', hI, E2, S2, hl2, hm2⟩ hpre
    have hy := run_yield (P := P) (args := #[.int .i64 x]) hl2 (by rw [hrec]; rfl)
    rw [hrec] at hy
    refine ⟨fr.fn, _, ca, cb, hy, trivial, fun c cs' _ => ?_⟩
    clear hy
    obtain ⟨t1, ht1⟩ : ∃ t1, t1 = fr.tmps.setIfInBounds p (.int .i64 x) := ⟨_, rfl⟩
    let b0 : Frame := { (default : Frame) with fn := fr.fn, kind := .normal, roundOf := some l }
    have hrd : Frame.round l fr.fn (((#[p] : Array Tmp).zip #[Value.int .i64 x]).foldl (fun tmps (t, a) => tmps.setIfInBounds t a) fr.tmps) ca cb .normal = b0.atR { tmps := t1, defers := [] } (.code ca :: [.beginRound, .code cb]) := by
      rw [ht1]; simp [Frame.round, Frame.atR, b0]
    rw [hrd]
    have hput : ∀ (W : World) (o : Obj), (W.putObj l o).heap.size = W.heap.size := fun W o => by simp [World.putObj]
    have hnc : ∀ {W : World} {o o' : Obj}, W.heap[l]? = some o → o.isCells = false → o'.isCells = false → ∀ b, (W.putObj l o').heap[b]? = W.heap[b]? ∨ NoCells W b ∧ NoCells (W.putObj l o') b := by
      intro W o o' h ho ho' b
      by_cases e : b = l
      · subst e
        refine .inr ⟨fun c e f h' => ?_, fun c e f h' => ?_⟩
        · rw [h] at h'; cases h'; simp [Obj.isCells] at ho
        · rw [World.putObj_heap_same (Array.getElem?_eq_some_iff.1 h).1] at h'; cases h'; simp [Obj.isCells] at ho'
      · exact .inl (World.putObj_heap_other e)
    have p0 : Pre G N 0 φ2 H2 F2' W (T.put (some p) (.c (.p (.int .i64 x)))) (b0.atR { tmps := t1, defers := [] } []) :=
      { run := rfl, size := by rw [ht1]; simp [Frame.atR, hp.size], defers := ⟨[], rfl, by simp, by simp⟩, round := fun l' hl' => by cases hl'; exact ⟨_, hl2⟩, base := Nat.zero_le _, srel := S2
        trel := by rw [ht1]; exact (hp.trel.evo E2).put (by rw [hp.size]; exact hpn) (.ofCR (.int .i64 x) rfl) }
    obtain ⟨e, T3, H3, φ3, F3, W3, tm3, ds3, ⟨rfl, hbody⟩, E3, p3, g3⟩ := round pre x H2 hpre hI φ2 F2' W _ [.beginRound, .code cb] (c :: cs') 0 p0
    have hl3 := E3.other S2 hl2 (by simp)
    have hbr := run_beginRound (P := P) hl3 (by rw [hrec])
    obtain ⟨E3b, S3b⟩ := evo_putObj (E2.trans E3) p3.srel (o' := .loop { rec .ready none with state := .busy }) hl3 hwl rfl rfl
    obtain ⟨-, A3b⟩ := srel_nc p3.srel (hput W3 (.loop { rec .ready none with state := .busy })) (hnc hl3 rfl rfl)
    have hl3b : (W3.putObj l (.loop { rec .ready none with state := .busy })).heap[l]? = some (.loop { rec .ready none with state := .busy }) := World.putObj_heap_same (Array.getElem?_eq_some_iff.1 hl3).1
    have p3b : Pre G N 0 φ3 H3 F3 (W3.putObj l (.loop { rec .ready none with state := .busy })) T3 (b0.atR { tmps := tm3, defers := ds3 } []) :=
      { run := rfl, size := p3.size
        defers := by
          obtain ⟨rs, q1, q2, q3⟩ := p3.defers
          refine ⟨rs, q1, q2, fun r hr => ⟨Nat.zero_le _, (World.putObj_heap_other fun e => ?_).trans (q3 r hr).2⟩⟩
          have := (q3 r hr).2
          rw [e, hl3] at this
          cases this
        round := fun l' hl' => by cases hl'; exact ⟨_, hl3b⟩, base := Nat.zero_le _, srel := S3b, trel := fun t => A3b (p3.trel t) }
    obtain ⟨e, T4, H4, φ4, F4, W4, tm4, ds4, hk4, E4, p4, g4⟩ := hbody φ3 F3 _ _ [] (c :: cs') 0 p3b
    have hl4 := E4.other S3b hl3b (by simp)
    have hend := run_endRound (P := P) (jumpOf e) hl4
    obtain ⟨E5, S5⟩ := evo_putObj (E3b.trans E4) p4.srel (o' := .loop { rec .ready none with state := if (jumpOf e).isNone then .ready else .done, pending := jumpOf e }) hl4 hwl rfl rfl
    have hl5 : (W4.putObj l (.loop { rec .ready none with state := if (jumpOf e).isNone then .ready else .done, pending := jumpOf e })).heap[l]? = some (.loop (rec (if (jumpOf e).isNone then .ready else .done) (jumpOf e))) := by
      rw [World.putObj_heap_same (Array.getElem?_eq_some_iff.1 hl4).1, hrec]
    have hm5 : ∀ r ∈ ms, (W4.putObj l (.loop { rec .ready none with state := if (jumpOf e).isNone then .ready else .done, pending := jumpOf e })).heap[r]? = some (.deferred (some [])) := fun r hr =>
      (World.putObj_heap_other (hmne r hr)).trans (E4.other S3b ((World.putObj_heap_other (hmne r hr)).trans (E3.other S2 (hm2 r hr) (by simp))) (by simp))
    have hsz5 : ∀ {o : Obj}, W.heap.size ≤ (W4.putObj l o).heap.size := fun {o} => by
      rw [hput]
      have h3 := E3.size
      have h4 := E4.size
      rw [hput] at h4
      omega
    have s3 : Steps P (lone (b0.atR { tmps := t1, defers := [] } (.code ca :: [.beginRound, .code cb])) (c :: cs') W) (lone (b0.atR { tmps := tm3, defers := ds3 } [.code cb]) (c :: cs') (W3.putObj l (.loop { rec .ready none with state := .busy }))) :=
      Steps.trans g3 (.one (stepR_beginRound (b := b0) (a := { tmps := tm3, defers := ds3 }) rfl hbr))
    cases e with
    | norm =>
      exact ⟨.returned (.bool true), _, .inl ⟨rfl, ⟨φ4, H4, F4, hk4, E5, S5, hl5, hm5⟩, hsz5, fun b o f => (E5.kp.froz b o f).trans (E2.kp.froz b o f).symm⟩, comesIn_wide.2 (Steps.trans s3 (Steps.trans g4 (.one (stepR_round_end (b := b0) (a := { tmps := tm4, defers := ds4 }) rfl rfl hend))))⟩
    | ret =>
      obtain ⟨k', g4⟩ := g4
      exact ⟨.returned (.bool false), _, .inr ⟨rfl, .ret, φ4, H4, F4, by simp, hk4, E5, S5, hl5, hm5⟩, comesIn_wide.2 (Steps.trans s3 (Steps.trans g4 (.one (stepR_round_ret (b := b0) (a := { tmps := tm4, defers := ds4 }) rfl rfl hend))))⟩
    | exit id =>
      obtain ⟨k', hx, g4⟩ := g4
      exact ⟨.returned (.bool false), _, .inr ⟨rfl, .exit id, φ4, H4, F4, by simp, hk4, E5, S5, hl5, hm5⟩, comesIn_wide.2 (Steps.trans s3 (Steps.trans g4 (.one (stepR_round_exit (b := b0) (a := { tmps := tm4, defers := ds4 }) rfl rfl (hx.trans rfl) hend))))⟩

theorem compC_rf {z : SA} {ps : List Nat} {a b : SC} : ∀ (c : Code), compC P N c = some (.rf z ps a b) → (∃ f p ca cb, c = .rangeFunc f p ca cb ∧ compA f = some z ∧ p.toList = ps ∧ compC P N ca = some a ∧ compC P N cb = some b ∧ ps.all (fun p => decide (p < N)) = true) ∨ ∃ c', c = .scope c' ∧ compC P N c' = some (.rf z ps a b) := by
  intro c hc
  cases c with
  | scope c => exact .inr ⟨c, rfl, by simpa only [compC] using hc⟩
  | rangeFunc f p ca cb =>
    simp only [compC] at hc
    split at hc
    · rename_i x y q h1 h2 h3 h4
      simp only [Option.some.injEq, SC.rf.injEq] at hc
      obtain ⟨rfl, rfl, rfl, rfl⟩ := hc
      exact .inl ⟨f, p, ca, cb, rfl, h1, rfl, h2, h3, h4⟩
    · cases hc
  | _ =>
    simp only [compC] at hc
    repeat' split at hc
    all_goals cases hc

/-- What a round's end asks, in plain form. -/
def roundRF (Inv : Hp → Prop) (Kx : Ex → Hp → Prop) (e : Ex) (_ : Tm) (H : Hp) : Prop :=
  match e with
  | .norm => Inv H
  | e => Kx e H

theorem SemS.rf (fl : Bool) (hm : P.follows .mixedOrders = true) {z : SA} {p : Nat} {a b : SC} {gi : FuncId} {id : Id} {s : Int} {K : Ex → Tm → Hp → Prop} (hv : evS G T z = .c (.fn gi [id])) (hgi : callable P gi = true) (hid : H.get id = some (.row [.int .u16 s])) {xs : List Int}
    (hseq : ∀ (F : Cl) w r, (∀ g cs, G g = some cs → At F w g 0 cs) → (∀ b o, F b o → b < w.heap.size) → w.cell? ⟨r, 0, none⟩ = some (.int .u16 s) → SeqN P F gi #[.pointer (some ⟨r, 0, none⟩)] xs w)
    (Inv : List Int → Hp → Prop) (Kx : Ex → Hp → Prop) (h0 : Inv [] H)
    (round : ∀ pre x H1, pre ++ [x] <+: xs → Inv pre H1 → wpf P G fl N a ((p, .c (.p (.int .i64 x))) :: T) H1 fun e T2 H2 => e = .norm ∧ wpf P G fl N b T2 H2 (roundRF (Inv (pre ++ [x])) Kx))
    (done : ∀ H1, Inv xs H1 → K .norm T H1) (stop : ∀ e H1, e ≠ .norm → Kx e H1 → K e T H1) : SemS P G N (.rf z [p] a b) T H K := by
  intro c
  induction c with
  | scope c ih =>
    intro hc
    exact sem_scope (ih (by simpa only [compC] using hc))
  | rangeFunc f ps ca cb _ _ =>
    intro hc
    rcases compC_rf _ hc with ⟨f', p', ca', cb', e, h1, h2, h3, h4, h5⟩ | ⟨c', e, _⟩
    · cases e
      obtain rfl : ps = #[p] := by cases ps; simpa using h2
      refine sem_rf h1 hv (by simpa using h5) hgi ?_ Inv Kx h0 ?_ done stop
      · intro φ F w cv hS hcv
        cases hcv with
        | cons hx ht =>
          cases ht
          obtain ⟨_, r, -, -, hφ, rfl⟩ := hx
          refine hseq F w r hS.glob hS.fin ?_
          obtain ⟨r', c, q1, ⟨e, q2⟩, -, q4⟩ := hS.blk id _ hid
          rw [hφ] at q1
          cases q1
          cases hcc : c.toList with
          | nil => rw [hcc] at q4; cases q4
          | cons v l =>
            rw [hcc] at q4
            cases q4 with
            | cons hv hl =>
              cases hv
              cases hl
              obtain rfl : c = #[.int .u16 s] := by cases c; simpa using hcc
              simp [World.cell?, q2]
      · intro pre x H1 hp hi
        have h := round pre x H1 hp hi
        rw [wpf_eq] at h
        refine (wps_sound hm ca a h3 h).mono ?_
        rintro e T2 H2 ⟨rfl, h⟩
        rw [wpf_eq] at h
        refine ⟨rfl, (wps_sound hm cb b h4 h).mono ?_⟩
        intro e T3 H3 h
        cases e <;> exact h
    · cases e
  | _ =>
    intro hc
    rcases compC_rf _ hc with ⟨f', p', ca', cb', e, _⟩ | ⟨c', e, _⟩ <;> cases e
end
end Go.Ab

namespace Go.Ab
open Go

section
variable {P : Program} {G : Gl} {N : Nat}

theorem steps_from {m m1 m2 : Machine} (h : Steps P m m2) (h1 : step P m = .next m1) (hne : m ≠ m2) : Steps P m1 m2 := by
  cases steps_iff.1 h with
  | refl => exact absurd rfl hne
  | head _ hs ht => rw [h1] at hs; cases hs; exact steps_iff.2 ht

theorem sem_loop1 {b : Code} {T : Tm} {H : Hp} {K : Ex → Tm → Hp → Prop} (h : SemC P G N b T H fun e T H => match e with | .norm => SemC P G N (.loop b) T H K | e => K e T H) : SemC P G N (.loop b) T H K := by
  intro φ F w fr k cs base hp
  obtain ⟨e, T', H', φ', F', w', tmps', ds', h1, h2, h3, h4⟩ := h φ F w fr (.inLoop b :: k) cs base hp
  have hs : step P (lone { fr with todo := .code (.loop b) :: k } cs w) = .next (lone { fr with todo := .code b :: .inLoop b :: k } cs w) := step_lone_go (by simp [stepG, stepG.exec, hp.run])
  cases e with
  | norm =>
    obtain ⟨e, T2, H2, φ2, F2, w2, tmps2, ds2, g1, g2, g3, g4⟩ := h1 φ' F' w' _ k cs base h3
    have hs1 : step P (lone { fr with tmps := tmps', defers := ds', todo := .code (.loop b) :: k } cs w') = .next (lone { fr with tmps := tmps', defers := ds', todo := .code b :: .inLoop b :: k } cs w') := step_lone_go (by simp [stepG, stepG.exec, hp.run])
    have hs2 : step P (lone { fr with tmps := tmps', defers := ds', todo := .inLoop b :: k } cs w') = .next (lone { fr with tmps := tmps', defers := ds', todo := .code b :: .inLoop b :: k } cs w') := step_lone_go (by simp [stepG, stepG.exec, hp.run])
    have key : ∀ {t : List Item} {tm : Array Value} {ds : List Deferred} {w2 : World}, t ≠ .code (.loop b) :: k → Steps P (lone { fr with tmps := tmps', defers := ds', todo := .code (.loop b) :: k } cs w') (lone { fr with tmps := tm, defers := ds, todo := t } cs w2) →
        Steps P (lone { fr with todo := .code (.loop b) :: k } cs w) (lone { fr with tmps := tm, defers := ds, todo := t } cs w2) := by
      intro t tm ds w2 hne hst
      refine .head hs (Steps.trans h4 (.head hs2 (steps_from hst hs1 fun e => hne ?_)))
      have : ({ fr with tmps := tmps', defers := ds', todo := .code (.loop b) :: k } : Frame).todo = ({ fr with tmps := tm, defers := ds, todo := t } : Frame).todo := by
        have := congrArg (fun m : Machine => m.gs.map fun g => g.frame.todo) e
        simpa [lone] using this
      exact this.symm
    refine ⟨e, T2, H2, φ2, F2, w2, tmps2, ds2, g1, h2.trans g2, g3, ?_⟩
    cases e with
    | norm => exact key (fun e => by have := congrArg List.length e; simp at this) g4
    | exit id => obtain ⟨k', h5, h6⟩ := g4; exact ⟨k', h5, key (by simp) h6⟩
    | ret => obtain ⟨k', h6⟩ := g4; exact ⟨k', key (by simp) h6⟩
  | exit id => obtain ⟨k', h5, h6⟩ := h4; exact ⟨.exit id, T', H', φ', F', w', tmps', ds', h1, h2, h3, k', by rw [h5]; rfl, .head hs h6⟩
  | ret => obtain ⟨k', h6⟩ := h4; exact ⟨.ret, T', H', φ', F', w', tmps', ds', h1, h2, h3, k', .head hs h6⟩

/-- What a round's end asks, where the loop goes on. -/
def againF (P : Program) (G : Gl) (N : Nat) (b : SC) (K : Ex → Tm → Hp → Prop) (e : Ex) (T : Tm) (H : Hp) : Prop :=
  match e with
  | .norm => SemS P G N (.loop b) T H K
  | e => K e T H

/-- A loop's first round. -/
theorem SemS.loop1 (fl : Bool) (hm : P.follows .mixedOrders = true) {b : SC} {T : Tm} {H : Hp} {K : Ex → Tm → Hp → Prop} (h : wpf P G fl N b T H (againF P G N b K)) : SemS P G N (.loop b) T H K := by
  intro c
  induction c with
  | scope c ih =>
    intro hc
    exact sem_scope (ih (by simpa only [compC] using hc))
  | loop cb _ =>
    intro hc
    rcases compC_loop _ hc with ⟨cb', e, hcb⟩ | ⟨c', e, _⟩
    · cases e
      rw [wpf_eq] at h
      refine sem_loop1 ((wps_sound hm cb b hcb h).mono ?_)
      intro e T H h
      cases e with
      | norm => exact h _ hc
      | exit i => exact h
      | ret => exact h
    · cases e
  | _ =>
    intro hc
    rcases compC_loop _ hc with ⟨cb', e, h⟩ | ⟨c', e, _⟩ <;> cases e

variable {φ φ' : Pl} {H H' : Hp} {F F' : Cl} {w w' : World} {T T' : Tm}

/-- What a round's end asks of the next head; blocks behind may be forgotten. -/
def roundC {σ : Type} (Tf : σ → Tm) (Hf : σ → Hp) (μ : σ → Nat) (Inv : σ → Prop) (s : σ) (K : Ex → Tm → Hp → Prop) (e : Ex) (T : Tm) (H : Hp) : Prop :=
  match e with
  | .norm => ∃ s' n, Inv s' ∧ μ s' < μ s ∧ subP T (Tf s') ∧ (Hf s).loc.length ≤ n ∧ cutH n H = Hf s' ∧ underT n (Tf s') = true ∧ underH n (Hf s') = true
  | e => K e T H

end
end Go.Ab

namespace Go.Ab
open Go

/-- What the one heap of abstract blocks describes, the other describes. -/
def Weak (H H2 : Hp) : Prop := ∀ {G : Gl} {φ : Pl} {F : Cl} {w : World}, SRel G φ H F w → ∃ φ2 F2, Evo φ H F w φ2 H2 F2 w ∧ SRel G φ2 H2 F2 w

section
variable {P : Program} {G : Gl} {N : Nat} {φ φ' : Pl} {H H1 H2 : Hp} {F F' : Cl} {w w' : World} {T : Tm}

theorem Weak.refl (H : Hp) : Weak H H := fun S => ⟨_, _, Evo.refl _ _ _ _, S⟩
theorem Weak.trans (h : Weak H H1) (k : Weak H1 H2) : Weak H H2 := fun S => by
  obtain ⟨φ1, F1, E1, S1⟩ := h S
  obtain ⟨φ2, F2, E2, S2⟩ := k S1
  exact ⟨φ2, F2, E1.trans E2, S2⟩

theorem EvG.weakL {g : FuncId} {args : List AV} {Q : AV → Hp → Prop} (hw : Weak H H2) (h : EvG P G g args H2 Q) : EvG P G g args H Q := by
  refine ⟨h.1, fun φ F w xs hS hx => ?_⟩
  obtain ⟨φ2, F2', E2, S2⟩ := hw hS
  refine (h.2 φ2 F2' w xs S2 (hx.imp fun _ _ q => q.evo E2)).mono fun e w' ⟨r, H', φ', F', x, hr, he, E, S, A⟩ => ?_
  exact ⟨r, H', φ', F', x, hr, he, E2.trans E, S, A⟩
theorem EvG.weakR {g : FuncId} {args : List AV} {Q Q' : AV → Hp → Prop} (h : EvG P G g args H Q) (hq : ∀ r h, Q r h → ∃ h2, Weak h h2 ∧ Q' r h2) : EvG P G g args H Q' := by
  refine ⟨h.1, fun φ F w xs hS hx => ?_⟩
  refine (h.2 φ F w xs hS hx).mono fun e w' ⟨r, H', φ', F', x, hr, he, E, S, A⟩ => ?_
  obtain ⟨h2, hw, hr2⟩ := hq r H' hr
  obtain ⟨φ2, F2', E2, S2⟩ := hw S
  exact ⟨r, h2, φ2, F2', x, hr2, he, E.trans E2, S2, A.evo E2⟩
theorem EvR.weakL {g : FuncId} {args : List AV} {v : AV} {H' : Hp} (hw : Weak H H2) (h : EvR P G g args H2 v H') : EvR P G g args H v H' := EvG.weakL hw h
theorem EvR.weakR {g : FuncId} {args : List AV} {v : AV} {H' : Hp} (h : EvR P G g args H v H') (hw : Weak H' H2) : EvR P G g args H v H2 :=
  EvG.weakR h fun _ _ ⟨h1, h2⟩ => ⟨H2, h2 ▸ hw, h1, rfl⟩

/-- A row, described otherwise. -/
theorem srel_row {id : Id} {b b' : Blk} (hS : SRel G φ H F w) (hg : H.get id = some b) (hb : b.isRow = true) (hb' : b'.isRow = true) (hr : BR φ H F w id b → BR φ H F w id b') :
    Evo φ H F w φ (H.set id b') F w ∧ SRel G φ (H.set id b') F w := by
  have E : Evo φ H F w φ (H.set id b') F w := { Evo.refl φ H F w with
    be := fun i c hc => by
      by_cases h : i = id
      · subst h
        rw [hg] at hc; cases hc
        refine ⟨b', Hp.get_set_self hg, ?_⟩
        cases b <;> cases b' <;> simp_all [BE, Blk.isRow]
      · exact ⟨c, by rw [Hp.get_set_other h]; exact hc, BE.refl φ i c⟩
    npar := by cases id <;> simp [Hp.set] }
  refine ⟨E, hS.inj, hS.dom, fun i r h => ?_, fun i c hc => ?_, hS.glob, hS.fin⟩
  · obtain ⟨c, hc⟩ := Option.isSome_iff_exists.1 (hS.has i r h)
    obtain ⟨c', hc', _⟩ := E.be i c hc
    rw [hc']; rfl
  · by_cases h : i = id
    · subst h
      rw [Hp.get_set_self hg] at hc; cases hc
      exact BR.evo E rfl (fun _ _ => rfl) (fun _ _ _ => Iff.rfl) (hr (hS.blk i b hg))
    · rw [Hp.get_set_other h] at hc
      exact BR.evo E rfl (fun _ _ => rfl) (fun _ _ _ => Iff.rfl) (hS.blk i c hc)

theorem f2_pure {vs : List PV} {xs : List Value} (h : F2 (fun u x => CR φ H F w u x ∧ Flat x) (vs.map .p) xs) : F2 (Rp F w) vs xs := (F2.mapl.1 h).imp fun _ _ q => q.1

/-- A row whose cells come frozen. -/
theorem Weak.row {id : Id} {cs cs' : List C} {vs : List PV} (hg : H.get id = some (.mrow cs)) (hf : freezeCs H cs = some (true, cs', H1)) (hg1 : H1.get id = some (.mrow cs)) (hv : cs' = vs.map .p) : Weak H (H1.set id (.row vs)) := by
  intro G φ F w hS
  obtain ⟨r, c, h1, h2, h3, h4⟩ := hS.blk id _ hg
  obtain ⟨F1, E1, S1, A1⟩ := freezeCs_run hS h4 hf rfl
  obtain ⟨r', c', q1, q2, q3, q4⟩ := S1.blk id _ hg1
  rw [h1] at q1; cases q1
  obtain ⟨e, o1⟩ := h2
  obtain ⟨e', o2⟩ := q2
  subst hv
  obtain ⟨E, S⟩ := srel_row S1 hg1 (b' := .row vs) rfl rfl fun _ => ⟨r, c, h1, ⟨e, o1⟩, q3, f2_pure A1⟩
  exact ⟨φ, F1, E1.trans E, S⟩

/-- Pure cells. -/
theorem Weak.pure {id : Id} {vs : List PV} (hg : H.get id = some (.mrow (vs.map .p))) : Weak H (H.set id (.row vs)) := by
  intro G φ F w hS
  obtain ⟨E, S⟩ := srel_row hS hg (b' := .row vs) rfl rfl fun ⟨r, c, h1, h2, h3, h4⟩ => ⟨r, c, h1, h2, h3, f2_pure h4⟩
  exact ⟨φ, F, E, S⟩

/-- An empty slice that its owner may append to. -/
theorem weak_add (sz : Nat) (hsz : 0 < sz) (hS : SRel G φ H F w) : Evo φ H F w φ (H.add (.arr sz false [])) F w ∧ SRel G φ (H.add (.arr sz false [])) F w := by
  have E : Evo φ H F w φ (H.add (.arr sz false [])) F w := { Evo.refl φ H F w with
    be := fun i c hc => ⟨c, Hp.get_add_old hc, BE.refl φ i c⟩
    npar := by simp [Hp.add] }
  refine ⟨E, hS.inj, hS.dom, fun i r h => ?_, fun i c hc => ?_, hS.glob, hS.fin⟩
  · obtain ⟨c, hc⟩ := Option.isSome_iff_exists.1 (hS.has i r h)
    rw [Hp.get_add_old hc]; rfl
  · rcases Hp.get_add_cases hc with hc | ⟨rfl, rfl⟩
    · exact BR.evo E rfl (fun _ _ => rfl) (fun _ _ _ => Iff.rfl) (hS.blk i c hc)
    · exact ⟨hsz, fun i r h => by simp at h, .inl ⟨no_phi_nid hS, rfl⟩⟩
theorem nils_os {sz : Nat} {x : Value} (h : x = .slice none 0 0) : CR φ (H.add (.arr sz false [])) F w (.os H.nid 0) x :=
  ⟨sz, false, [], Hp.get_add_new, Nat.le_refl _, fun _ => .inl ⟨rfl, none, h⟩⟩

theorem f2_set {α β : Type} {R : α → β → Prop} {as : List α} {bs : List β} (h : F2 R as bs) {j : Nat} {a : α} (ha : ∀ b, bs[j]? = some b → R a b) : F2 R (as.set j a) bs := by
  induction h generalizing j with
  | nil => exact .nil
  | cons h t ih =>
    cases j with
    | zero => exact .cons (ha _ rfl) t
    | succ j => exact .cons h (ih fun b hb => ha b (by simpa using hb))

theorem Weak.nils {id : Id} {cs : List C} {j : Nat} (sz : Nat) (hsz : 0 < sz) (hg : H.get id = some (.mrow cs)) (hj : cs[j]? = some .nils) : Weak H ((H.add (.arr sz false [])).set id (.mrow (cs.set j (.os H.nid 0)))) := by
  intro G φ F w hS
  obtain ⟨E1, S1⟩ := weak_add sz hsz hS
  obtain ⟨E, S⟩ := srel_row S1 (Hp.get_add_old hg) (b' := .mrow (cs.set j (.os H.nid 0))) rfl rfl fun ⟨r, c, h1, h2, h3, h4⟩ => ⟨r, c, h1, h2, h3, f2_set h4 fun x hx => by
    obtain ⟨x', e1, e2, e3⟩ := h4.get hj
    rw [hx] at e1; cases e1
    exact ⟨nils_os e2, e3⟩⟩
  exact ⟨φ, F, E1.trans E, S⟩

end
end Go.Ab

namespace Go.Ab
open Go

section
variable {P : Program} {G : Gl} {H : Hp}

theorem EvG.of_wpf (fl m : Bool) (hm : P.follows .mixedOrders = true) {g : FuncId} {sf : SF} (hc : compF P g = some sf) {args : List AV} {Q : AV → Hp → Prop} (hp : Nat.beq args.length sf.np = true)
    (h : wpf P G fl sf.nt sf.body (argsT 0 args) H (endF fl m sf.res Q)) : EvG P G g args H Q := by
  rw [wpf_eq, endF_eq] at h
  exact evG_of m hc (Nat.eq_of_beq_eq_true hp) (SemS.of_wps hm h)

/-- What a function does, new blocks forgotten. -/
theorem EvR.of_cut {g : FuncId} {args : List AV} {v : AV} {H2 : Hp} (h : EvG P G g args H fun r h => r = v ∧ cutH H.loc.length h = H2) (hu : (underA H.loc.length v && underH H.loc.length H2) = true) : EvR P G g args H v H2 := by
  rw [Bool.and_eq_true] at hu
  refine ⟨h.1, fun φ F w xs hS hx => ?_⟩
  refine (h.2 φ F w xs hS hx).mono fun e w' ⟨r, h', φ', F', x, ⟨e1, e2⟩, he, E, S, A⟩ => ?_
  subst e1 e2
  obtain ⟨E', S'⟩ := srel_cut (Nat.le_refl _) hu.2 E S
  exact ⟨r, _, _, F', x, ⟨rfl, rfl⟩, he, E', S', A.cut hu.1⟩
theorem EvR.of_wpfC (fl m : Bool) (hm : P.follows .mixedOrders = true) {g : FuncId} {sf : SF} (hc : compF P g = some sf) {args : List AV} {H2 : Hp} {v : AV} (hp : Nat.beq args.length sf.np = true) (hu : (underA H.loc.length v && underH H.loc.length H2) = true)
    (h : wpf P G fl sf.nt sf.body (argsT 0 args) H (endF fl m sf.res fun r h => r = v ∧ cutH H.loc.length h = H2)) : EvR P G g args H v H2 :=
  EvR.of_cut (EvG.of_wpf fl m hm hc hp h) hu
/-- What is given back comes frozen. -/
theorem EvR.frz {g : FuncId} {args : List AV} {v v' : AV} {H' H2 : Hp} (h : EvR P G g args H v H') (hf : freezeA H' v = some (true, v', H2)) : EvR P G g args H v' H2 := by
  refine ⟨h.1, fun φ F w xs hS hx => ?_⟩
  refine (h.2 φ F w xs hS hx).mono fun e w' ⟨r, h', φ', F', x, ⟨e1, e2⟩, he, E, S, A⟩ => ?_
  subst e1 e2
  obtain ⟨F2, E2, S2, A2⟩ := freezeA_run S A hf rfl
  exact ⟨_, _, φ', F2, x, ⟨rfl, rfl⟩, he, E.trans E2, S2, A2⟩
theorem nd_t {p : Prop} [Decidable p] (h : ¬ p) : (!decide p) = true := by rw [decide_eq_false h]; rfl
theorem nd_f {p : Prop} [Decidable p] (h : p) : (!decide p) = false := by rw [decide_eq_true h]; rfl
/-- A copy of a slice, whatever its elements. -/
def cloneSF (sz bytes : Nat) : SF := ⟨1, 8, [.t 2], .seq (.reg false [⟨some 2, .move (.v (.c .nils)), none⟩]) (.seq (.seq (.reg false [⟨some 3, .move (.t 0), none⟩, ⟨some 4, .isnil true (.t 3), none⟩]) (.cond (.t 4) (.seq (.reg false [⟨some 2, .move (.v (.c .nils)), none⟩]) .ret) .skip)) (.seq (.reg false [⟨some 5, .lit sz [], none⟩, ⟨some 6, .move (.t 0), none⟩, ⟨some 7, .app sz bytes false (.t 5) (.t 6), none⟩, ⟨some 2, .move (.t 7), none⟩]) .ret))⟩
end
end Go.Ab

namespace Go.Ab
open Go

def typK : List LK → List PV → Bool
  | [], [] => true
  | .int k :: ks, .int k1 _ :: r => decide (k1 = k) && typK ks r
  | .bool :: ks, .bool _ :: r => typK ks r
  | .str :: ks, .str _ :: r => typK ks r
  | _, _ => false

end Go.Ab
