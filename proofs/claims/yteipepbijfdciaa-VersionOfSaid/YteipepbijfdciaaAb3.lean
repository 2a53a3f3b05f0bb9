/- Each operation of the abstract evaluator, held against the model's. No condition. -/
import Derived.Test.YteipepbijfdciaaAb2
set_option linter.unusedSimpArgs false
set_option linter.unusedVariables false
namespace Go.Ab
open Go

section inv
variable {φ : Pl} {H : Hp} {F : Cl} {w : World} {x : Value}
theorem AR.int {k : IntKind} {n : Int} (h : AR φ H F w (.c (.p (.int k n))) x) : x = .int k n := by
  cases h with | one h => cases h with | c h _ => cases (show Rp F w _ x from h); rfl
theorem AR.bool {b : Bool} (h : AR φ H F w (.c (.p (.bool b))) x) : x = .bool b := by
  cases h with | one h => cases h with | c h _ => cases (show Rp F w _ x from h); rfl
theorem AR.str {s : List UInt8} (h : AR φ H F w (.c (.p (.str s))) x) : ∃ t : ByteArray, x = .string t ∧ t.data.toList = s := by
  cases h with | one h => cases h with | c h _ => cases (show Rp F w _ x from h) with | str t => exact ⟨t, rfl, rfl⟩
theorem AR.cc {c : C} (h : AR φ H F w (.c c) x) : CR φ H F w c x ∧ Flat x := by
  cases h with | one h => cases h with | c h hx => exact ⟨h, hx⟩
theorem AR.aggr {cs : List PV} (h : AR φ H F w (.agg cs) x) : ∃ xs : List Value, x = .agg xs.toArray ∧ F2 (Rp F w) cs xs := by
  cases h with | one h => cases h with | agg h => exact ⟨_, rfl, h⟩
theorem AR.mix {cs : List C} (h : AR φ H F w (.mg cs) x) : ∃ xs : List Value, x = .agg xs.toArray ∧ F2 (fun c x => CR φ H F w c x ∧ Flat x) cs xs := by
  cases h with | one h => cases h with | mg h => exact ⟨_, rfl, h⟩
theorem AR.tupr {vs : List AV} (h : AR φ H F w (.tup vs) x) : ∃ xs : List Value, x = .tuple xs.toArray ∧ F2 (AR1 φ H F w) vs xs := by
  cases h with
  | one h => cases h
  | tup h => exact ⟨_, rfl, h⟩
theorem Rp.flat {p : PV} (h : Rp F w p x) : Flat x := by cases h <;> rfl
theorem AR.ofInt (k : IntKind) (n : Int) : AR φ H F w (.c (.p (.int k n))) (.int k n) := .one (.c (c := .p (.int k n)) (Rp.int k n) rfl)
theorem AR.ofBool (b : Bool) : AR φ H F w (.c (.p (.bool b))) (.bool b) := .one (.c (c := .p (.bool b)) (Rp.bool b) rfl)
theorem AR.ofRp {p : PV} (h : Rp F w p x) : AR φ H F w (.c (.p p)) x := .one (.c (c := .p p) h h.flat)
theorem AR.ofCR {c : C} (h : CR φ H F w c x) (f : Flat x) : AR φ H F w (.c c) x := .one (.c h f)
theorem AR.ofStr {s : List UInt8} (t : ByteArray) (h : t.data.toList = s) : AR φ H F w (.c (.p (.str s))) (.string t) := by
  subst h; exact .ofRp (.str t)
end inv

/-- The model carries an operation out as the abstract one says. -/
def Snd (P : Program) (G : Gl) (s : Sem Next) (φ : Pl) (H : Hp) (F : Cl) (w : World) (v : AV) (H' : Hp) : Prop :=
  ∃ nx xv w' φ' F', s.run P w = .ok nx w' ∧ (nx = .value xv ∨ (nx = .skip ∧ xv = undef)) ∧ Evo φ H F w φ' H' F' w' ∧ SRel G φ' H' F' w' ∧ AR φ' H' F' w' v xv

section
variable {P : Program} {G : Gl} {φ : Pl} {H : Hp} {F : Cl} {w : World} {ρ : Operand → Value} {T : Tm}

theorem Snd.keep {s : Sem Next} {v : AV} {xv : Value} (hS : SRel G φ H F w) (h : s.run P w = .ok (.value xv) w) (hv : AR φ H F w v xv) : Snd P G s φ H F w v H :=
  ⟨_, xv, w, φ, F, h, .inl rfl, Evo.refl φ H F w, hS, hv⟩

theorem run_guard_int (op : BinOp) (t : TypeId) (x y : Operand) (k k' : IntKind) (a b : Int) : (eqGuard op t x y (.int k a) (.int k' b)).run P w = .ok () w := by
  unfold eqGuard; cases op <;> rfl
theorem run_guard_bool (op : BinOp) (t : TypeId) (x y : Operand) (a b : Bool) : (eqGuard op t x y (.bool a) (.bool b)).run P w = .ok () w := by
  unfold eqGuard; cases op <;> rfl
theorem run_guard_str (op : BinOp) (t : TypeId) (x y : Operand) (a b : ByteArray) : (eqGuard op t x y (.string a) (.string b)).run P w = .ok () w := by
  unfold eqGuard; cases op <;> rfl
theorem run_guard_ptr (op : BinOp) (t : TypeId) (x y : Operand) (a b : Option Addr) : (eqGuard op t x y (.pointer a) (.pointer b)).run P w = .ok () w := by
  unfold eqGuard; cases op <;> rfl

theorem run_intA {op : BinOp} {t : TypeId} {k : IntKind} {m n : Int} {b : Bool} {v : PV} (h : intA op k m n = some (b, v)) (hb : b = true) :
    ∃ xv, (binOp op t (.int k m) (.int k n)).run P w = .ok xv w ∧ ∀ {φ H F w}, AR φ H F w (.c (.p v)) xv := by
  subst hb
  cases op <;> simp only [intA, Option.some.injEq, Prod.mk.injEq, reduceCtorEq] at h <;> try obtain ⟨h1, rfl⟩ := h
  case add => exact ⟨_, by simp only [binOp, ne_eq, not_true, if_false, Op.intArith]; rfl, AR.ofInt _ _⟩
  case sub => exact ⟨_, by simp only [binOp, ne_eq, not_true, if_false, Op.intArith]; rfl, AR.ofInt _ _⟩
  case mul => exact ⟨_, by simp only [binOp, ne_eq, not_true, if_false, Op.intArith]; rfl, AR.ofInt _ _⟩
  case quo =>
    have hn : n ≠ 0 := by simpa using h1
    exact ⟨_, by simp only [binOp, ne_eq, not_true, if_false, Op.intDiv, hn]; rfl, AR.ofInt _ _⟩
  case rem =>
    have hn : n ≠ 0 := by simpa using h1
    exact ⟨_, by simp only [binOp, ne_eq, not_true, if_false, Op.intDiv, hn]; rfl, AR.ofInt _ _⟩
  case and => exact ⟨_, by simp only [binOp, ne_eq, not_true, if_false, Op.intBits]; rfl, AR.ofInt _ _⟩
  case or => exact ⟨_, by simp only [binOp, ne_eq, not_true, if_false, Op.intBits]; rfl, AR.ofInt _ _⟩
  case xor => exact ⟨_, by simp only [binOp, ne_eq, not_true, if_false, Op.intBits]; rfl, AR.ofInt _ _⟩
  case andNot => exact ⟨_, by simp only [binOp, ne_eq, not_true, if_false, Op.intBits]; rfl, AR.ofInt _ _⟩
  case eql => exact ⟨_, by simp only [binOp, ne_eq, not_true, if_false, Op.intCmp]; rfl, AR.ofBool _⟩
  case neq => exact ⟨_, by simp only [binOp, ne_eq, not_true, if_false, Op.intCmp]; rfl, AR.ofBool _⟩
  case lss => exact ⟨_, by simp only [binOp, ne_eq, not_true, if_false, Op.intCmp]; rfl, AR.ofBool _⟩
  case leq => exact ⟨_, by simp only [binOp, ne_eq, not_true, if_false, Op.intCmp]; rfl, AR.ofBool _⟩
  case gtr => exact ⟨_, by simp only [binOp, ne_eq, not_true, if_false, Op.intCmp]; rfl, AR.ofBool _⟩
  case geq => exact ⟨_, by simp only [binOp, ne_eq, not_true, if_false, Op.intCmp]; rfl, AR.ofBool _⟩

theorem run_shiftA {op : BinOp} {t : TypeId} {k k' : IntKind} {m n : Int} {b : Bool} {v : PV} (h : shiftA op k m n = some (b, v)) (hb : b = true) :
    ∃ xv, (binOp op t (.int k m) (.int k' n)).run P w = .ok xv w ∧ ∀ {φ H F w}, AR φ H F w (.c (.p v)) xv := by
  subst hb
  cases op <;> simp only [shiftA, Option.some.injEq, Prod.mk.injEq, reduceCtorEq, decide_eq_true_eq] at h <;> obtain ⟨h1, rfl⟩ := h
  all_goals
    have hn : ¬ n < 0 := by omega
    exact ⟨_, by simp only [binOp, Op.shift, hn, if_false]; rfl, AR.ofInt _ _⟩
end
end Go.Ab
