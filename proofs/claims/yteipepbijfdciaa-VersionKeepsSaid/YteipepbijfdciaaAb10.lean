/- The evaluator whose values come out in their plain form: what one steps through by hand. No condition. -/
import Derived.Test.YteipepbijfdciaaAb9
set_option linter.unusedSimpArgs false
set_option linter.unusedVariables false
namespace Go.Ab
open Go

def fPs (l : List PV) (k : List PV → Prop) : Prop := match l with
  | [] => k []
  | v :: r => fPs r fun r => k (v :: r)
def fPsIf (fl : Bool) (l : List PV) (k : List PV → Prop) : Prop := match fl with
  | true => fPs l k
  | false => k l
def fN (n : Nat) (k : Nat → Prop) : Prop := match n with
  | 0 => k 0
  | n + 1 => k (n + 1)
def fId (i : Id) (k : Id → Prop) : Prop := match i with
  | .par n => k (.par n)
  | .loc n => fN n fun n => k (.loc n)
def fPV (v : PV) (k : PV → Prop) : Prop := match v with
  | .int kd n => k (.int kd n)
  | .bool b => k (.bool b)
  | .str s => k (.str s)
  | .sl es => k (.sl es)
def fC (fl : Bool) (c : C) (k : C → Prop) : Prop := match c with
  | .p v => fPV v fun v => k (.p v)
  | .ptr i o => fId i fun i => k (.ptr i o)
  | .ap i n j o => fId i fun i => k (.ap i n j o)
  | .rp cs => fPsIf fl cs fun cs => k (.rp cs)
  | .nilp => k .nilp
  | .os i n => fId i fun i => k (.os i n)
  | .nils => k .nils
  | .ti es => k (.ti es)
  | .fn g caps => k (.fn g caps)
  | .nilf => k .nilf
def fA (fl : Bool) (a : AV) (k : AV → Prop) : Prop := match a with
  | .un => k .un
  | .c c => fC fl c fun c => k (.c c)
  | .agg cs => fPsIf fl cs fun cs => k (.agg cs)
  | .mg cs => k (.mg cs)
  | .tup vs => k (.tup vs)
def fAs (fl : Bool) (l : List AV) (k : List AV → Prop) : Prop := match l with
  | [] => k []
  | v :: r => fA fl v fun v => fAs fl r fun r => k (v :: r)
def fBlk (fl : Bool) (b : Blk) (k : Blk → Prop) : Prop := match b with
  | .row cs => fPsIf fl cs fun cs => k (.row cs)
  | .mrow cs => k (.mrow cs)
  | .arr sz fz es => k (.arr sz fz es)
  | .hole => k .hole
def fBs (fl : Bool) (l : List Blk) (k : List Blk → Prop) : Prop := match l with
  | [] => k []
  | v :: r => fBlk fl v fun v => fBs fl r fun r => k (v :: r)
def fH (fl : Bool) (H : Hp) (k : Hp → Prop) : Prop := match H with
  | ⟨p, l⟩ => fBs fl p fun p => fBs fl l fun l => k ⟨p, l⟩
def fPut (T : Tm) (d : Option Nat) (v : AV) (k : Tm → Prop) : Prop := match d with
  | some t => k ((t, v) :: T)
  | none => k T

theorem fPs_eq (l : List PV) : ∀ (k : List PV → Prop), fPs l k = k l := by
  induction l with
  | nil => intro k; rfl
  | cons v r ih => intro k; simp [fPs, ih]
theorem fPsIf_eq (fl : Bool) (l : List PV) (k : List PV → Prop) : fPsIf fl l k = k l := by cases fl <;> simp [fPsIf, fPs_eq]
theorem fN_eq (n : Nat) (k : Nat → Prop) : fN n k = k n := by cases n <;> rfl
theorem fId_eq (i : Id) (k : Id → Prop) : fId i k = k i := by cases i <;> simp [fId, fN_eq]
theorem fPV_eq (v : PV) (k : PV → Prop) : fPV v k = k v := by cases v <;> rfl
theorem fC_eq (fl : Bool) (c : C) (k : C → Prop) : fC fl c k = k c := by cases c <;> simp [fC, fPV_eq, fId_eq, fN_eq, fPsIf_eq]
theorem fA_eq (fl : Bool) (a : AV) (k : AV → Prop) : fA fl a k = k a := by cases a <;> simp [fA, fC_eq, fPsIf_eq]
theorem fAs_eq (fl : Bool) (l : List AV) : ∀ (k : List AV → Prop), fAs fl l k = k l := by
  induction l with
  | nil => intro k; rfl
  | cons v r ih => intro k; simp [fAs, fA_eq, ih]
theorem fBlk_eq (fl : Bool) (b : Blk) (k : Blk → Prop) : fBlk fl b k = k b := by cases b <;> simp [fBlk, fPsIf_eq]
theorem fBs_eq (fl : Bool) (l : List Blk) : ∀ (k : List Blk → Prop), fBs fl l k = k l := by
  induction l with
  | nil => intro k; rfl
  | cons v r ih => intro k; simp [fBs, fBlk_eq, ih]
theorem fH_eq (fl : Bool) (H : Hp) (k : Hp → Prop) : fH fl H k = k H := by cases H; simp [fH, fBs_eq]
theorem fPut_eq (T : Tm) (d : Option Nat) (v : AV) (k : Tm → Prop) : fPut T d v k = k (T.put d v) := by cases d <;> rfl

section
variable (P : Program) (G : Gl) (fl : Bool) (N : Nat)

/-- A call, where one stops. -/
inductive CallK (keep pure : Bool) (g : FuncId) (caps : List Id) (args : List AV) (H : Hp) (k : AV → Hp → Prop) : Prop
  | mk (h : callK P G keep pure g caps args H k)

def callF (keep pure : Bool) (f : AV) (args : List AV) (H : Hp) (k : AV → Hp → Prop) : Prop :=
  match f with
  | .c (.fn g caps) => fAs fl args fun args => CallK P G keep pure g caps args H fun v H => fA fl v fun v => fH fl H fun H => k v H
  | _ => False

def opF (o : SOp) (T : Tm) (H : Hp) (k : AV → Hp → Prop) : Prop :=
  match o.heap with
  | true => match opS G o T H with
    | some ⟨b, v, H'⟩ => gd b (fA fl v fun v => fH fl H' fun H' => k v H')
    | none => False
  | false => match opS G o T H with
    | some ⟨b, v, H'⟩ => gd b (fA fl v fun v => k v H')
    | none => False

def eqF (pos : Bool) (r : Option (Bool × Bool)) (H : Hp) (k : AV → Hp → Prop) : Prop :=
  match r with
  | some (p, r) => gd p (match pos with
    | true => k (.c (.p (.bool r))) H
    | false => k (.c (.p (.bool (!r)))) H)
  | none => False

def pickF (c a b : AV) (H : Hp) (k : AV → Hp → Prop) : Prop :=
  match c with
  | .c (.p (.bool t)) => brP t (fA fl a fun v => k v H) (fA fl b fun v => k v H)
  | _ => False

def stepF (d : Bool) (o : SOp) (T : Tm) (H : Hp) (k : AV → Hp → Prop) : Prop :=
  match o with
  | .call pure f args => callF P G fl d pure (evS G T f) (args.map (evS G T)) H k
  | .eq pos n a b => eqF pos (eqS n (evS G T a) (evS G T b)) H k
  | .pick c a b => pickF fl (evS G T c) (evS G T a) (evS G T b) H k
  | .isnil pos a => nilO d pos (evS G T a) H k
  | o => opF G fl o T H k

def oF (d : Bool) (o : SO) (T : Tm) (H : Hp) (k : Tm → Hp → Prop) : Prop :=
  match o.guard with
  | none => stepF P G fl d o.op T H fun v H => fPut T o.dst v fun T => k T H
  | some (t, want) => match T.get t with
    | .c (.p (.bool b)) => match want with
      | true => brP b (stepF P G fl d o.op T H fun v H => fPut T o.dst v fun T => k T H) (fPut T o.dst (.tup []) fun T => k T H)
      | false => brP b (fPut T o.dst (.tup []) fun T => k T H) (stepF P G fl d o.op T H fun v H => fPut T o.dst v fun T => k T H)
    | .tup [] => fPut T o.dst (.tup []) fun T => k T H
    | _ => False

def lF (d : Bool) : List SO → Tm → Hp → (Tm → Hp → Prop) → Prop
  | [], T, H, k => k T H
  | o :: r, T, H, k => oF P G fl d o T H fun T H => lF d r T H k

/-- A call in a region whose order is open, where one stops. -/
inductive CallM (g : FuncId) (args : List AV) (H : Hp) (k : AV → Hp → Fp → Prop) : Prop
  | mk (h : ∃ v H' fp, callG P G g args H v H' fp ∧ k v H' fp)

def fIds (l : List Id) (k : List Id → Prop) : Prop := match l with
  | [] => k []
  | v :: r => fId v fun v => fIds r fun r => k (v :: r)

def stepMF (slot : Nat) (o : SOp) (T : Tm) (H : Hp) (k : AV → Hp → Fp → Prop) : Prop :=
  match o with
  | .call _ f args => match evS G T f with
    | .c (.fn g []) => fAs fl (args.map (evS G T)) fun args => CallM P G g args H fun v H fp => fA fl v fun v => fH fl H fun H => k v H fp
    | _ => False
  | .eq pos n a b => eqF pos (eqS n (evS G T a) (evS G T b)) H fun v H => k v H ⟨rdO G (.eq pos n a b) T, []⟩
  | .pick c a b => pickF fl (evS G T c) (evS G T a) (evS G T b) H fun v H => k v H ⟨rdO G (.pick c a b) T, []⟩
  | o => match opM G (.loc slot) o T H with
    | some ⟨b, v, H'⟩ => gd b (fA fl v fun v => fH fl H' fun H' => fIds (rdO G o T) fun rd => fIds (wrO G (.loc slot) o T) fun wr => k v H' ⟨rd, wr⟩)
    | none => False

def oMF (slot : Nat) (o : SO) (T : Tm) (H : Hp) (k : Tm → Hp → Fp → Prop) : Prop :=
  match o.guard with
  | none => stepMF P G fl slot o.op T H fun v H fp => fPut T o.dst v fun T => k T H fp
  | some (t, want) => match T.get t with
    | .c (.p (.bool b)) => match want with
      | true => brP b (stepMF P G fl slot o.op T H fun v H fp => fPut T o.dst v fun T => k T H fp) (fPut T o.dst (.tup []) fun T => k T H ⟨[], []⟩)
      | false => brP b (fPut T o.dst (.tup []) fun T => k T H ⟨[], []⟩) (stepMF P G fl slot o.op T H fun v H fp => fPut T o.dst v fun T => k T H fp)
    | .tup [] => fPut T o.dst (.tup []) fun T => k T H ⟨[], []⟩
    | _ => False

def fLog (l : List Fp) (k : List Fp → Prop) : Prop := match l with
  | [] => k []
  | v :: r => fLog r fun r => k (v :: r)
def fSlot (b : Bool) (s : Nat) (k : Nat → Prop) : Prop := match b with
  | true => k (s + 1)
  | false => k s

def lMF (an : List Nat) : List SO → Nat → Nat → Tm → Hp → List Fp → (Tm → Hp → Prop) → Prop
  | [], _, _, T, H, _, k => k T H
  | o :: r, j, s, T, H, log, k => oMF P G fl s o T H fun T H fp => gd (okFp (an.getD j 0) fp 0 log) (fLog (log ++ [fp]) fun log => fSlot o.op.adds s fun s => lMF an r (j + 1) s T H log k)

def wpf : SC → Tm → Hp → (Ex → Tm → Hp → Prop) → Prop
  | .skip, T, H, k => k .norm T H
  | .reg d ops, T, H, k => lF P G fl d ops T H (k .norm)
  | .seq a b, T, H, k => wpf a T H (seqK (wpf b) k)
  | .cond c t e, T, H, k => match evS G T c with
    | .c (.p (.bool b)) => brP b (wpf t T H k) (wpf e T H k)
    | _ => False
  | .block id b, T, H, k => wpf b T H (blockK id k)
  | .loop b, T, H, k => SemS P G N (.loop b) T H k
  | .rf f ps a b, T, H, k => SemS P G N (.rf f ps a b) T H k
  | .exit id, T, H, k => k (.exit id) T H
  | .ret, T, H, k => k .ret T H
  | .dr an ops, T, H, k => lMF P G fl an ops 0 H.loc.length T (withHoles H (cnt ops)) [] (k .norm)

def endF (m : Bool) (res : List SR) (Q : AV → Hp → Prop) (e : Ex) (T : Tm) (H : Hp) : Prop :=
  match e with
  | .exit _ => False
  | _ => match resS T H res with
    | some (b, vs) => gd b (match frzR m H vs with
      | some (b', vs', H') => gd b' (fAs fl vs' fun vs' => fH fl H' fun H' => Q (finV vs') H')
      | none => False)
    | none => False
end

section
variable {P : Program} {G : Gl} {fl : Bool} {N : Nat}

theorem CallK_eq (keep pure : Bool) (g : FuncId) (caps : List Id) (args : List AV) (H : Hp) (k : AV → Hp → Prop) : CallK P G keep pure g caps args H k = callK P G keep pure g caps args H k := propext ⟨fun ⟨h⟩ => h, fun h => ⟨h⟩⟩

theorem callK_p {keep : Bool} {g : FuncId} {args : List AV} {H : Hp} {v : AV} {k : AV → Hp → Prop} (h : EvP P G g args v) (hk : k v H) : CallK P G keep true g [] args H k := ⟨cK_p h hk⟩
theorem callK_pf {pure : Bool} {g : FuncId} {args args' : List AV} {H H' : Hp} {v : AV} {k : AV → Hp → Prop} (hf : freezeAs H args = some (true, args', H')) (h : EvP P G g args' v) (hk : k v H') : CallK P G false pure g [] args H k := ⟨cK_pf hf h hk⟩
theorem callK_r {pure : Bool} {g : FuncId} {caps : List Id} {args : List AV} {H H' : Hp} {v : AV} {k : AV → Hp → Prop} (h : EvR P G g (args ++ caps.map fun i => .c (.ptr i 0)) H v H') (hk : k v H') : CallK P G false pure g caps args H k := ⟨cK_r h hk⟩
theorem callK_rf {pure : Bool} {g : FuncId} {caps : List Id} {args args' : List AV} {H H1 H' : Hp} {v : AV} {k : AV → Hp → Prop} (hf : freezeAs H args = some (true, args', H1)) (h : EvR P G g (args' ++ caps.map fun i => .c (.ptr i 0)) H1 v H') (hk : k v H') : CallK P G false pure g caps args H k := ⟨cK_rf hf h hk⟩

theorem callF_eq (keep pure : Bool) (f : AV) (args : List AV) (H : Hp) (k : AV → Hp → Prop) : callF P G fl keep pure f args H k = wpCall P G keep pure f args H k := by
  unfold callF wpCall
  cases f with
  | c c =>
    cases c with
    | fn g caps => simp only [fAs_eq, fA_eq, fH_eq, CallK_eq]
    | _ => rfl
  | _ => rfl
theorem opF_eq (o : SOp) (T : Tm) (H : Hp) (k : AV → Hp → Prop) : opF G fl o T H k = (match opS G o T H with
    | some ⟨b, v, H'⟩ => gd b (k v H')
    | none => False) := by
  unfold opF
  split <;> simp only [fA_eq, fH_eq]
theorem eqF_eq (pos : Bool) (n : EK) (a b : SA) (T : Tm) (H : Hp) (k : AV → Hp → Prop) (d : Bool) : eqF pos (eqS n (evS G T a) (evS G T b)) H k = stepO P G d (.eq pos n a b) T H k := by
  simp only [stepO, opS, eqF]
  generalize eqS n (evS G T a) (evS G T b) = r
  cases r with
  | none => rfl
  | some q => obtain ⟨p, r⟩ := q; cases pos <;> rfl
theorem pickF_eq (c a b : SA) (T : Tm) (H : Hp) (k : AV → Hp → Prop) (d : Bool) : pickF fl (evS G T c) (evS G T a) (evS G T b) H k = stepO P G d (.pick c a b) T H k := by
  simp only [stepO, opS, pickF, fA_eq]
  generalize evS G T c = c
  cases c with
  | c c =>
    cases c with
    | p v =>
      cases v with
      | bool t => cases t <;> rfl
      | _ => rfl
    | _ => rfl
  | _ => rfl
theorem stepF_eq (d : Bool) (o : SOp) (T : Tm) (H : Hp) (k : AV → Hp → Prop) : stepF P G fl d o T H k = stepO P G d o T H k := by
  cases o <;> first | exact callF_eq .. | exact eqF_eq .. | exact pickF_eq .. | exact rfl | (simp only [stepF, stepO, opF_eq]; generalize opS G _ T H = r; cases r <;> rfl)
theorem oF_eq (d : Bool) (o : SO) (T : Tm) (H : Hp) (k : Tm → Hp → Prop) : oF P G fl d o T H k = wpO P G d o T H k := by
  simp only [oF, wpO, fPut_eq, stepF_eq]
  cases o.guard with
  | none => rfl
  | some q =>
    obtain ⟨t, want⟩ := q
    dsimp only
    generalize T.get t = a
    cases a with
    | c c =>
      cases c with
      | p v => cases v <;> first | rfl | (cases want <;> rfl)
      | _ => rfl
    | tup vs => cases vs <;> rfl
    | _ => rfl
theorem lF_eq (d : Bool) : ∀ (l : List SO) (T : Tm) (H : Hp) (k : Tm → Hp → Prop), lF P G fl d l T H k = wpL P G d l T H k
  | [], _, _, _ => rfl
  | o :: r, T, H, k => by simp only [lF, wpL, oF_eq, lF_eq d r]
theorem fIds_eq (l : List Id) : ∀ (k : List Id → Prop), fIds l k = k l := by
  induction l with
  | nil => intro k; rfl
  | cons v r ih => intro k; simp [fIds, fId_eq, ih]
theorem fLog_eq (l : List Fp) : ∀ (k : List Fp → Prop), fLog l k = k l := by
  induction l with
  | nil => intro k; rfl
  | cons v r ih => intro k; simp [fLog, ih]
theorem fSlot_eq (o : SO) (s : Nat) (k : Nat → Prop) : fSlot o.op.adds s k = k (nextS o s) := by unfold fSlot nextS; cases o.op.adds <;> rfl
theorem CallM_eq (g : FuncId) (args : List AV) (H : Hp) (k : AV → Hp → Fp → Prop) : CallM P G g args H k = ∃ v H' fp, callG P G g args H v H' fp ∧ k v H' fp := propext ⟨fun ⟨h⟩ => h, fun h => ⟨h⟩⟩
theorem stepMF_eq (slot : Nat) (o : SOp) (T : Tm) (H : Hp) (k : AV → Hp → Fp → Prop) : stepMF P G fl slot o T H k = stepM P G slot o T H k := by
  cases o
  case call p f args =>
    simp only [stepMF, stepM, fAs_eq, fA_eq, fH_eq, CallM_eq]
    generalize evS G T f = V
    cases V with
    | c c =>
      cases c with
      | fn g caps => cases caps <;> rfl
      | _ => rfl
    | _ => rfl
  case eq pos n a b =>
    simp only [stepMF, stepM, opM, okM, opS, eqF, wrO]
    generalize eqS n (evS G T a) (evS G T b) = r
    cases r with
    | none => rfl
    | some q => obtain ⟨p, r⟩ := q; cases pos <;> rfl
  case pick c a b =>
    simp only [stepMF, stepM, opM, okM, opS, pickF, fA_eq, wrO]
    generalize hc : evS G T c = x
    cases x with
    | c x =>
      cases x with
      | p v =>
        cases v with
        | bool t => cases t <;> rfl
        | _ => rfl
      | _ => rfl
    | _ => rfl
  all_goals
    simp only [stepMF, stepM, fA_eq, fH_eq, fIds_eq]
    generalize opM G _ _ T H = r
    cases r <;> rfl
theorem oMF_eq (slot : Nat) (o : SO) (T : Tm) (H : Hp) (k : Tm → Hp → Fp → Prop) : oMF P G fl slot o T H k = oM P G slot o T H k := by
  simp only [oMF, oM, fPut_eq, stepMF_eq]
  cases o.guard with
  | none => rfl
  | some q =>
    obtain ⟨t, want⟩ := q
    dsimp only
    generalize T.get t = a
    cases a with
    | c c =>
      cases c with
      | p v => cases v <;> first | rfl | (cases want <;> rfl)
      | _ => rfl
    | tup vs => cases vs <;> rfl
    | _ => rfl
theorem lMF_eq (an : List Nat) : ∀ (l : List SO) (j s : Nat) (T : Tm) (H : Hp) (log : List Fp) (k : Tm → Hp → Prop), lMF P G fl an l j s T H log k = lM P G an l j s T H log k
  | [], _, _, _, _, _, _ => rfl
  | o :: r, j, s, T, H, log, k => by simp only [lMF, lM, oMF_eq, fLog_eq, fSlot_eq, lMF_eq an r]
theorem callM_p {g : FuncId} {args args' : List AV} {H : Hp} {v : AV} {k : AV → Hp → Fp → Prop} (h : EvP P G g args' v) (hf : froAs H args = some args') (hk : k v H ⟨args.flatMap idsA, []⟩) : CallM P G g args H k := ⟨v, H, _, .inr ⟨args', hf, h, rfl, rfl⟩, hk⟩
theorem callM_l {g : FuncId} {args : List AV} {H H' : Hp} {v : AV} {fp : Fp} {k : AV → Hp → Fp → Prop} (h : LEv P G g args H v H' fp) (hk : k v H' fp) : CallM P G g args H k := ⟨v, H', fp, .inl h, hk⟩
theorem wpf_eq : ∀ (s : SC) (T : Tm) (H : Hp) (k : Ex → Tm → Hp → Prop), wpf P G fl N s T H k = wps P G N s T H k
  | .skip, _, _, _ => rfl
  | .reg d ops, T, H, k => by simp only [wpf, wps, lF_eq]
  | .seq a b, T, H, k => by
    have : wpf P G fl N b = wps P G N b := by funext T H k; exact wpf_eq b T H k
    simp only [wpf, wps, wpf_eq a, this]
  | .cond c t e, T, H, k => by
    simp only [wpf, wps, wpf_eq t, wpf_eq e]
    generalize evS G T c = a
    cases a with
    | c c =>
      cases c with
      | p v => cases v <;> rfl
      | _ => rfl
    | _ => rfl
  | .block id b, T, H, k => by simp only [wpf, wps, wpf_eq b]
  | .loop b, _, _, _ => rfl
  | .rf .., _, _, _ => rfl
  | .exit _, _, _, _ => rfl
  | .ret, _, _, _ => rfl
  | .dr an ops, T, H, k => by simp only [wpf, wps, lMF_eq]
theorem endF_eq (m : Bool) (res : List SR) (Q : AV → Hp → Prop) : endF fl m res Q = endK m res Q := by
  funext e T H
  simp only [endF, endK, fAs_eq, fH_eq]
  cases e <;> first
    | rfl
    | (dsimp only
       generalize resS T H res = r
       cases r with
       | none => rfl
       | some q =>
         obtain ⟨b, vs⟩ := q
         dsimp only
         generalize frzR m H vs = r
         cases r <;> rfl)

/-- A function of values: by stepping through its body. -/
theorem EvP.of_wpf (fl : Bool) (hm : P.follows .mixedOrders = true) {g : FuncId} {sf : SF} (hc : compF P g = some sf) {args : List AV} {v : AV} (hp : (args.all pureV1 && pureV v && Nat.beq args.length sf.np) = true)
    (h : wpf P G fl sf.nt sf.body (argsT 0 args) ⟨[], []⟩ (endF fl true sf.res fun r _ => r = v)) : EvP P G g args v := by
  simp only [Bool.and_eq_true] at hp
  rw [wpf_eq, endF_eq] at h
  exact ⟨hp.1.1, hp.1.2, evG_of true hc (Nat.eq_of_beq_eq_true hp.2) (SemS.of_wps hm h)⟩

/-- The same, where one stops. -/
inductive wpfS (P : Program) (G : Gl) (fl : Bool) (N : Nat) (s : SC) (T : Tm) (H : Hp) (k : Ex → Tm → Hp → Prop) : Prop
  | mk (h : wpf P G fl N s T H k)
theorem wpfS_eq : wpfS P G fl N = wpf P G fl N := by funext s T H k; exact propext ⟨fun ⟨h⟩ => h, fun h => ⟨h⟩⟩
theorem wpf_seq1 {a b : SC} {T : Tm} {H : Hp} {k : Ex → Tm → Hp → Prop} (h : wpf P G fl N a T H (seqK (wpfS P G fl N b) k)) : wpf P G fl N (.seq a b) T H k := by
  rw [wpfS_eq] at h
  exact h
theorem wpfS_go {s : SC} {T : Tm} {H : Hp} {k : Ex → Tm → Hp → Prop} (h : wpf P G fl N s T H k) : wpfS P G fl N s T H k := by rw [wpfS_eq]; exact h
theorem wpfS_seq1 {a b : SC} {T : Tm} {H : Hp} {k : Ex → Tm → Hp → Prop} (h : wpf P G fl N a T H (seqK (wpfS P G fl N b) k)) : wpfS P G fl N (.seq a b) T H k := wpfS_go (wpf_seq1 h)

theorem wpL_append {d : Bool} : ∀ (a b : List SO) {T : Tm} {H : Hp} {k : Tm → Hp → Prop}, wpL P G d a T H (fun T H => wpL P G d b T H k) → wpL P G d (a ++ b) T H k
  | [], _, _, _, _, h => h
  | _ :: a, b, _, _, _, h => wpO_mono (fun _ _ h => wpL_append a b h) h
/-- A region, so many operations first. -/
theorem wpf_cut (n : Nat) {d : Bool} {l : List SO} {T : Tm} {H : Hp} {k : Ex → Tm → Hp → Prop} (h : wpf P G fl N (.reg d (l.take n)) T H (seqK (wpfS P G fl N (.reg d (l.drop n))) k)) : wpf P G fl N (.reg d l) T H k := by
  rw [wpfS_eq] at h
  simp only [wpf, lF_eq] at h ⊢
  have := wpL_append (l.take n) (l.drop n) (T := T) (H := H) (k := k .norm) (by
    refine wpL_mono (fun T H q => ?_) _ h
    simpa only [seqK, wpf, lF_eq] using q)
  rwa [List.take_append_drop] at this

theorem wpf_run {R : Run} (hR : R.Ok P) (d : Nat) {m : Bool} {s : SC} {res : List SR} {T : Tm} {H H' : Hp} {v : AV} {Q : AV → Hp → Prop} (h : runRest R (R.call d) m s res T H = some (v, H')) (hq : Q v H') : wpf P R.G fl N s T H (endF fl m res Q) := by
  rw [wpf_eq, endF_eq]
  exact wps_run hR d h hq

theorem wpf_isT {R : Run} (hR : R.Ok P) (d : Nat) {m : Bool} {s : SC} {res : List SR} {T : Tm} {H : Hp} (h : isT (runRest R (R.call d) m s res T H) = true) : wpf P R.G fl N s T H (endF fl m res fun r _ => r = .c (.p (.bool true))) := by
  unfold isT at h
  split at h
  · rename_i e; exact wpf_run hR d e rfl
  · cases h

/-- A function that looks at memory, or changes it. -/
theorem EvR.of_wpf (fl m : Bool) (hm : P.follows .mixedOrders = true) {g : FuncId} {sf : SF} (hc : compF P g = some sf) {args : List AV} {H H' : Hp} {v : AV} (hp : Nat.beq args.length sf.np = true)
    (h : wpf P G fl sf.nt sf.body (argsT 0 args) H (endF fl m sf.res fun r h => r = v ∧ h = H')) : EvR P G g args H v H' := by
  rw [wpf_eq, endF_eq] at h
  exact evG_of m hc (Nat.eq_of_beq_eq_true hp) (SemS.of_wps hm h)

def subP (T : Tm) : Tm → Prop
  | [] => True
  | (t, v) :: r => T.get t = v ∧ subP T r

theorem Sub.of {T T' : Tm} (h : subP T T') : Sub T T' := by
  intro t
  induction T' with
  | nil => exact .inl rfl
  | cons q r ih =>
    obtain ⟨u, v⟩ := q
    simp only [Tm.get]
    split
    · rename_i e
      rw [← Nat.eq_of_beq_eq_true e]
      exact .inr h.1.symm
    · exact ih h.2

/-- What a round's end asks of the next head, in plain form. -/
def roundF {σ : Type} (Tf : σ → Tm) (Hf : σ → Hp) (μ : σ → Nat) (Inv : σ → Prop) (s : σ) (K : Ex → Tm → Hp → Prop) (e : Ex) (T : Tm) (H : Hp) : Prop :=
  match e with
  | .norm => ∃ s', Inv s' ∧ μ s' < μ s ∧ subP T (Tf s') ∧ H = Hf s'
  | e => K e T H

theorem stepM_mono {slot : Nat} {o : SOp} {T : Tm} {H : Hp} {k k' : AV → Hp → Fp → Prop} (hk : ∀ v H f, k v H f → k' v H f) (h : stepM P G slot o T H k) : stepM P G slot o T H k' := by
  cases o
  case call p f args =>
    simp only [stepM] at h ⊢
    split at h
    · obtain ⟨v, H', fp, h1, h2⟩ := h
      exact ⟨v, H', fp, h1, hk _ _ _ h2⟩
    · exact h.elim
  all_goals
    simp only [stepM] at h ⊢
    split at h
    · obtain ⟨h1, h2⟩ := gd_of h
      exact gd_mk h1 (hk _ _ _ h2)
    · exact h.elim
theorem oM_mono {slot : Nat} {o : SO} {T : Tm} {H : Hp} {k k' : Tm → Hp → Fp → Prop} (hk : ∀ v H f, k v H f → k' v H f) (h : oM P G slot o T H k) : oM P G slot o T H k' := by
  unfold oM at h ⊢
  split at h
  · exact stepM_mono (fun _ _ _ => hk _ _ _) h
  · split at h
    · rename_i b _
      split at h
      · cases b
        · exact hk _ _ _ h
        · exact stepM_mono (fun _ _ _ => hk _ _ _) h
      · cases b
        · exact stepM_mono (fun _ _ _ => hk _ _ _) h
        · exact hk _ _ _ h
    · exact hk _ _ _ h
    · exact h.elim
theorem lM_mono {an : List Nat} {k k' : Tm → Hp → Prop} (hk : ∀ T H, k T H → k' T H) : ∀ (l : List SO) {j s : Nat} {T : Tm} {H : Hp} {log : List Fp}, lM P G an l j s T H log k → lM P G an l j s T H log k'
  | [], _, _, _, _, _, h => hk _ _ h
  | o :: r, j, s, T, H, log, h => oM_mono (fun _ _ _ h => by
      obtain ⟨h1, h2⟩ := gd_of h
      exact gd_mk h1 (lM_mono hk r h2)) h

theorem wps_mono : ∀ (s1 : SC) {T : Tm} {H : Hp} {K K' : Ex → Tm → Hp → Prop}, (∀ e T H, K e T H → K' e T H) → wps P G N s1 T H K → wps P G N s1 T H K' := by
  intro s1
  have hgd : ∀ {b : Bool} {p q : Prop}, (p → q) → gd b p → gd b q := by
    intro b p q hpq h
    obtain ⟨h1, h2⟩ := gd_of h
    exact gd_mk h1 (hpq h2)
  have hbr : ∀ {b : Bool} {p q p' q' : Prop}, (p → p') → (q → q') → brP b p q → brP b p' q' := by
    intro b p q p' q' h1 h2 h
    cases b
    · exact h2 h
    · exact h1 h
  have hcall : ∀ {keep pure : Bool} {f : AV} {args : List AV} {H : Hp} {k k' : AV → Hp → Prop}, (∀ v H, k v H → k' v H) → wpCall P G keep pure f args H k → wpCall P G keep pure f args H k' := by
    intro keep pure f args H k k' hk h
    unfold wpCall at h ⊢
    split at h
    · unfold callK at h ⊢
      split at h
      · obtain ⟨h0, h1, as, h2, v, h3, h4⟩ := h
        exact ⟨h0, h1, as, h2, v, h3, hk _ _ h4⟩
      · obtain ⟨m, as, H1, v, H2, h1, h2, h3⟩ := h
        exact ⟨m, as, H1, v, H2, h1, h2, hk _ _ h3⟩
    · exact h.elim
  have hstep : ∀ {d : Bool} {o : SOp} {T : Tm} {H : Hp} {k k' : AV → Hp → Prop}, (∀ v H, k v H → k' v H) → stepO P G d o T H k → stepO P G d o T H k' := by
    intro d o T H k k' hk h
    cases o <;> first
      | exact hcall hk h
      | exact nilO_mono hk h
      | (simp only [stepO] at h ⊢
         split at h
         · exact hgd (hk _ _) h
         · exact h.elim)
  have hO : ∀ {d : Bool} {o : SO} {T : Tm} {H : Hp} {k k' : Tm → Hp → Prop}, (∀ v H, k v H → k' v H) → wpO P G d o T H k → wpO P G d o T H k' := by
    intro d o T H k k' hk h
    unfold wpO at h ⊢
    split at h
    · exact hstep (fun _ _ => hk _ _) h
    · split at h
      · split at h
        · exact hbr (hstep fun _ _ => hk _ _) (hk _ _) h
        · exact hbr (hk _ _) (hstep fun _ _ => hk _ _) h
      · exact hk _ _ h
      · exact h.elim
  have hL : ∀ {d : Bool} (l : List SO) {T : Tm} {H : Hp} {k k' : Tm → Hp → Prop}, (∀ v H, k v H → k' v H) → wpL P G d l T H k → wpL P G d l T H k' := by
    intro d l
    induction l with
    | nil => intro T H k k' hk h; exact hk _ _ h
    | cons o r ih => intro T H k k' hk h; exact hO (fun _ _ => ih hk) h
  induction s1 with
  | skip => intro T H K K' hk h; exact hk _ _ _ h
  | reg d ops => intro T H K K' hk h; exact hL ops (hk _) h
  | dr an ops => intro T H K K' hk h; exact lM_mono (hk _) ops h
  | seq a b iha ihb =>
    intro T H K K' hk h
    refine iha ?_ h
    intro e T H h
    cases e with
    | norm => exact ihb hk h
    | exit i => exact hk _ _ _ h
    | ret => exact hk _ _ _ h
  | cond c t e iht ihe =>
    intro T H K K' hk h
    simp only [wps] at h ⊢
    split at h
    · exact hbr (iht hk) (ihe hk) h
    · exact h.elim
  | block id b ih =>
    intro T H K K' hk h
    refine ih ?_ h
    intro e T H h
    cases e with
    | norm => exact hk _ _ _ h
    | ret => exact hk _ _ _ h
    | exit i =>
      simp only [blockK] at h ⊢
      split at h <;> exact hk _ _ _ h
  | loop b => intro T H K K' hk h; exact SemS.mono h hk
  | rf => intro T H K K' hk h; exact SemS.mono h hk
  | exit id => intro T H K K' hk h; exact hk _ _ _ h
  | ret => intro T H K K' hk h; exact hk _ _ _ h

theorem SemS.loopF (fl : Bool) (hm : P.follows .mixedOrders = true) {b : SC} {T : Tm} {H : Hp} {K : Ex → Tm → Hp → Prop} {σ : Type} (Tf : σ → Tm) (Hf : σ → Hp) (μ : σ → Nat) (Inv : σ → Prop) (s0 : σ) (h0 : Inv s0) (hT : subP T (Tf s0)) (hH : H = Hf s0)
    (round : ∀ s, Inv s → wpf P G fl N b (Tf s) (Hf s) (roundF Tf Hf μ Inv s K)) : SemS P G N (.loop b) T H K := by
  refine SemS.loop hm Tf Hf μ Inv s0 h0 (.of hT) hH fun s hs => ?_
  have := round s hs
  rw [wpf_eq] at this
  refine wps_mono b ?_ this
  intro e T H h
  cases e with
  | norm => obtain ⟨s', h1, h2, h3, h4⟩ := h; exact ⟨s', h1, h2, .of h3, h4⟩
  | exit i => exact h
  | ret => exact h

theorem brP_t {b : Bool} {p q : Prop} (h : b = true) (hp : p) : brP b p q := by subst h; exact hp
theorem brP_f {b : Bool} {p q : Prop} (h : b = false) (hp : q) : brP b p q := by subst h; exact hp
end
end Go.Ab
