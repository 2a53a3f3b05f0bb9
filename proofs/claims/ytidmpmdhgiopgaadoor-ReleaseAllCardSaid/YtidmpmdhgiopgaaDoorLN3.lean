/- Part of a proof; no condition. Part of a proof; no condition. Part of a proof; no condition. -/
import Derived.Test.YtidmpmdhgiopgaaDoorLA11
set_option linter.unusedSimpArgs false
set_option linter.unusedVariables false
namespace Go.Ab.S
open Go Go.Ab Go.Proofs
attribute [local irreducible] SemS
set_option maxRecDepth 100000
/-! ### Cursors -/
def cur (p a : Int) : AV := .agg [.int .i64 p, .int .i64 a]
def many (p a : Int) : Int := if p = 2 ∨ p = 3 then 12 else if p = 1 ∨ p = 4 then a else 0
def sweptB (p a k : Int) : Bool := decide (0 ≤ k) && decide (k < many p a)
def looseB (p a n : Int) : Bool := decide (0 ≤ n) && (decide (n < 4) && (decide (p = 3) || (decide (p = 2) && decide (n < a))))
def stampV (p a e k : Int) : Int := if sweptB p a k then e + 1 else e
/-- All cursors, as the document lists them. -/
def anyL : List (Int × Int) := [(1,0),(1,1),(1,2),(1,3),(1,4),(1,5),(1,6),(1,7),(1,8),(1,9),(1,10),(1,11),(2,0),(2,1),(2,2),(2,3),(3,0),(0,0),(4,12),(4,11),(4,10),(4,9),(4,8),(4,7),(4,6),(4,5),(4,4),(4,3),(4,2),(4,1),(0,0)]
def anyC (n : Nat) : Int × Int := anyL.getD (n % 31) (0, 0)
def crows (l : List (Int × Int)) : List (List PV) := l.map fun q => [.int .i64 q.1, .int .i64 q.2]
/-! ### Names -/
def idv (s i : Nat) (k n : Int) : AV := .agg [.int .u16 s, .int .u16 i, .int .i64 k, .int .i64 n]
def idB (k n : Int) : Bool := decide (1 ≤ k) && (decide (k ≤ 3) && (decide (0 ≤ n) && decide (n < 4)))
theorem idB_iff {k n : Int} : idB k n = true ↔ 1 ≤ k ∧ k ≤ 3 ∧ 0 ≤ n ∧ n < 4 := by simp [idB]
theorem ident_Fine_ok (s i : Nat) (k n : Int) : EvP PR G f_ident_Fine [idv s i k n] (bv (idB k n)) := by
  refine EvP.of_wpf true hm c_ident_Fine rfl ?_
  conv => whnf
  by_cases h0 : 1 ≤ k
  · by_cases h1 : k ≤ 3
    · by_cases h2 : 0 ≤ n
      · by_cases h3 : n < 4
        · rw [show idB k n = true by rw [idB_iff]; omega]
          repeat' ((first | refine brP_t (by assumption) ?_ | refine brP_f (by assumption) ?_ | refine brP_t (decide_eq_true (by omega)) ?_ | refine brP_f (decide_eq_false (by omega)) ?_ | refine brP_t (nd_t (by omega)) ?_ | refine brP_f (nd_f (by omega)) ?_ | fail) <;> conv => whnf)
          exact congrArg bv (decide_eq_true h3)
        · rw [show idB k n = false by rw [← Bool.not_eq_true, idB_iff]; omega]
          repeat' ((first | refine brP_t (by assumption) ?_ | refine brP_f (by assumption) ?_ | refine brP_t (decide_eq_true (by omega)) ?_ | refine brP_f (decide_eq_false (by omega)) ?_ | refine brP_t (nd_t (by omega)) ?_ | refine brP_f (nd_f (by omega)) ?_ | fail) <;> conv => whnf)
          exact congrArg bv (decide_eq_false h3)
      · rw [show idB k n = false by rw [← Bool.not_eq_true, idB_iff]; omega]
        repeat' ((first | refine brP_t (by assumption) ?_ | refine brP_f (by assumption) ?_ | refine brP_t (decide_eq_true (by omega)) ?_ | refine brP_f (decide_eq_false (by omega)) ?_ | refine brP_t (nd_t (by omega)) ?_ | refine brP_f (nd_f (by omega)) ?_ | fail) <;> conv => whnf)
        rfl
    · rw [show idB k n = false by rw [← Bool.not_eq_true, idB_iff]; omega]
      repeat' ((first | refine brP_t (by assumption) ?_ | refine brP_f (by assumption) ?_ | refine brP_t (decide_eq_true (by omega)) ?_ | refine brP_f (decide_eq_false (by omega)) ?_ | refine brP_t (nd_t (by omega)) ?_ | refine brP_f (nd_f (by omega)) ?_ | fail) <;> conv => whnf)
      rfl
  · rw [show idB k n = false by rw [← Bool.not_eq_true, idB_iff]; omega]
    repeat' ((first | refine brP_t (by assumption) ?_ | refine brP_f (by assumption) ?_ | refine brP_t (decide_eq_true (by omega)) ?_ | refine brP_f (decide_eq_false (by omega)) ?_ | refine brP_t (nd_t (by omega)) ?_ | refine brP_f (nd_f (by omega)) ?_ | fail) <;> conv => whnf)
    rfl
theorem R21_Fine_ok (s i : Nat) (k n : Int) : EvP PR G f_R21_Fine [idv s i k n] (bv (idB k n)) := by
  refine EvP.of_wpf true hm c_R21_Fine rfl ?_
  conv => whnf
  by_cases h0 : 1 ≤ k ∧ k ≤ 3
  · have hk : k = 1 ∨ k = 2 ∨ k = 3 := by omega
    by_cases h2 : 0 ≤ n ∧ n < 4
    · rw [show idB k n = true by rw [idB_iff]; omega]
      have hn : n = 0 ∨ n = 1 ∨ n = 2 ∨ n = 3 := by omega
      rcases hk with rfl | rfl | rfl <;> rcases hn with rfl | rfl | rfl | rfl
      all_goals
        repeat' ((first | refine brP_t (by assumption) ?_ | refine brP_f (by assumption) ?_ | refine brP_t (decide_eq_true (by omega)) ?_ | refine brP_f (decide_eq_false (by omega)) ?_ | refine brP_t (nd_t (by omega)) ?_ | refine brP_f (nd_f (by omega)) ?_ | fail) <;> conv => whnf)
        rfl
    · rw [show idB k n = false by rw [← Bool.not_eq_true, idB_iff]; omega]
      rcases hk with rfl | rfl | rfl
      all_goals
        repeat' ((first | refine brP_t (by assumption) ?_ | refine brP_f (by assumption) ?_ | refine brP_t (decide_eq_true (by omega)) ?_ | refine brP_f (decide_eq_false (by omega)) ?_ | refine brP_t (nd_t (by omega)) ?_ | refine brP_f (nd_f (by omega)) ?_ | fail) <;> conv => whnf)
        exact congrArg bv (decide_eq_false (by omega))
  · rw [show idB k n = false by rw [← Bool.not_eq_true, idB_iff]; omega]
    repeat' ((first | refine brP_t (by assumption) ?_ | refine brP_f (by assumption) ?_ | refine brP_t (decide_eq_true (by omega)) ?_ | refine brP_f (decide_eq_false (by omega)) ?_ | refine brP_t (nd_t (by omega)) ?_ | refine brP_f (nd_f (by omega)) ?_ | fail) <;> conv => whnf)
    rfl
def laneV (k n : Int) : Int := if idB k n then (k - 1) * 4 + n else -1
/-! ### What a name became -/
end Go.Ab.S

namespace Go.Ab.S
open Go Go.Ab Go.Proofs
attribute [local irreducible] SemS
set_option maxRecDepth 100000
/-! ### What is known of Set, as a table -/
def kn1 (g : FuncId) (args : List AV) : Option AV := match Nat.beq g f_relabel_Set, args with
  | true, [.agg [.int .u8 (.ofNat a0), .int .u8 (.ofNat a1), .int .u8 (.ofNat a2), .int .u8 (.ofNat a3), .int .u8 (.ofNat a4), .int .u8 (.ofNat a5), .int .u8 (.ofNat a6), .int .u8 (.ofNat a7), .int .u8 (.ofNat a8), .int .u8 (.ofNat a9), .int .u8 (.ofNat a10), .int .u8 (.ofNat a11), .int .u8 (.ofNat a12), .int .u8 (.ofNat a13), .int .u8 (.ofNat a14), .int .u8 (.ofNat a15)], .c (.p (.int .u16 (.ofNat s)))] =>
    match (List.range 16).all (fun i => Nat.ble (listM [a0, a1, a2, a3, a4, a5, a6, a7, a8, a9, a10, a11, a12, a13, a14, a15] i) 255) && Nat.blt s 65536 with
    | true => some (uv (setN (listM [a0, a1, a2, a3, a4, a5, a6, a7, a8, a9, a10, a11, a12, a13, a14, a15]) s : Nat))
    | false => none
  | _, _ => none
def R1 : Run := { G, own := fun _ => false, kn := kn1, tab, L := 100 }
end Go.Ab.S

namespace Go.Ab.S
open Go Go.Ab Go.Proofs
attribute [local irreducible] SemS
set_option maxRecDepth 100000
/-! ### Messages, mailboxes, objects -/
structure Msg where
  no : Int
  ep : Int
  s : Nat
  i : Nat
  role : Int
  used : Nat
  data : List UInt8
  deriving DecidableEq
structure Bx where
  next : Int
  q : List Msg
  a : List Msg
  h : List Msg
  deriving DecidableEq
structure Ob where
  ids : Nat
  idi : Nat
  k : Int
  n : Int
  ls : Nat
  li : Nat
  stamp : Int
  swept : Bool
  ws : Nat
  wi : Nat
  role : Int
  buf : List UInt8
  dead : Bool
  bx : Bx
  deriving DecidableEq
def in64 (n : Int) : Prop := -9223372036854775808 ≤ n ∧ n < 9223372036854775808
structure Msg.Ok (m : Msg) : Prop where
  no : in64 m.no
  ep : in64 m.ep
  s : m.s < 65536
  i : m.i < 65536
  role : in64 m.role
  used : m.used < 65536
structure Bx.Ok (b : Bx) : Prop where
  next : in64 b.next
  q : ∀ m ∈ b.q, m.Ok
  a : ∀ m ∈ b.a, m.Ok
  h : ∀ m ∈ b.h, m.Ok
  ql : b.q.length < 2 ^ 63
  al : b.a.length < 2 ^ 63
  hl : b.h.length < 2 ^ 63
structure Ob.Ok (o : Ob) : Prop where
  ids : o.ids < 65536
  idi : o.idi < 65536
  k : in64 o.k
  n : in64 o.n
  ls : o.ls < 65536
  li : o.li < 65536
  stamp : in64 o.stamp
  ws : o.ws < 65536
  wi : o.wi < 65536
  role : in64 o.role
  bx : o.bx.Ok
def Msg.row (m : Msg) : List PV := [.int .i64 m.no, .int .i64 m.ep, .int .u16 m.s, .int .u16 m.i, .int .i64 m.role, .int .u16 m.used, .str m.data]
def msgs (l : List Msg) : List (List PV) := l.map Msg.row
def Bx.row (b : Bx) : List PV := [.int .i64 b.next, .sl (msgs b.q), .sl (msgs b.a), .sl (msgs b.h)]
def Ob.row (o : Ob) : List PV := [.int .u16 o.ids, .int .u16 o.idi, .int .i64 o.k, .int .i64 o.n, .int .u16 o.ls, .int .u16 o.li, .int .i64 o.stamp, .bool o.swept, .int .u16 o.ws, .int .u16 o.wi, .int .i64 o.role, .str o.buf, .bool o.dead, .int .i64 o.bx.next, .sl (msgs o.bx.q), .sl (msgs o.bx.a), .sl (msgs o.bx.h)]
theorem msgs_len {l : List Msg} : (msgs l).length = l.length := by simp [msgs]
theorem msgs_get {l : List Msg} {i : Nat} (h : i < l.length) : (msgs l)[i]? = some l[i].row := by rw [msgs, List.getElem?_map, List.getElem?_eq_getElem h]; rfl
theorem msgs_app (a b : List Msg) : msgs (a ++ b) = msgs a ++ msgs b := by simp [msgs]
theorem msgs_all (l : List Msg) : ((msgs l).all fun r => r.length == 7) = true := by simp [msgs, Msg.row]
theorem msgs_drop (l : List Msg) (n : Nat) : (msgs l).drop n = msgs (l.drop n) := by simp [msgs, List.map_drop]
/-! ### What is read of arguments -/
abbrev shLab : Sh := .st (.cons 1 (.int .u16) (.cons 1 (.int .u16) .nil))
abbrev shMsg : Sh := .st (.cons 1 (.int .i64) (.cons 1 (.int .i64) (.cons 2 shLab (.cons 1 (.int .i64) (.cons 1 (.int .u16) (.cons 1 .str .nil))))))
abbrev shBx : Sh := .st (.cons 1 (.int .i64) (.cons 1 (.sl 7 56 shMsg) (.cons 1 (.sl 7 56 shMsg) (.cons 1 (.sl 7 56 shMsg) .nil))))
abbrev shId : Sh := .st (.cons 2 shLab (.cons 1 (.int .i64) (.cons 1 (.int .i64) .nil)))
abbrev shOb : Sh := .st (.cons 4 shId (.cons 2 shLab (.cons 1 (.int .i64) (.cons 1 .bool (.cons 2 shLab (.cons 1 (.int .i64) (.cons 1 .str (.cons 1 .bool (.cons 4 shBx .nil)))))))))
theorem i64_of {n : Int} (h : IntKind.i64.min ≤ n ∧ n ≤ IntKind.i64.max) : in64 n := by
  have h0 : (-9223372036854775808 : Int) ≤ n := h.1
  have h1 : n ≤ (9223372036854775807 : Int) := h.2
  exact ⟨h0, by omega⟩
theorem u16_of {n : Int} (h : IntKind.u16.min ≤ n ∧ n ≤ IntKind.u16.max) : ∃ m : Nat, n = m ∧ m < 65536 := by
  have h0 : (0 : Int) ≤ n := h.1
  have h1 : n ≤ (65535 : Int) := h.2
  exact ⟨n.toNat, by omega, by omega⟩
theorem u8_of {n : Int} (h : IntKind.u8.min ≤ n ∧ n ≤ IntKind.u8.max) : ∃ m : Nat, n = m ∧ m < 256 := by
  have h0 : (0 : Int) ≤ n := h.1
  have h1 : n ≤ (255 : Int) := h.2
  exact ⟨n.toNat, by omega, by omega⟩
theorem len63 {n : Nat} (h : n ≤ maxLen) : n < 2 ^ 63 := Nat.lt_of_le_of_lt h (by decide)
theorem msg_of {cs : List PV} (h : wt shMsg cs) : ∃ m : Msg, cs = m.row ∧ m.Ok := by
  obtain ⟨a, _, rfl, -, ⟨no, rfl, hno⟩, b, _, rfl, -, ⟨ep, rfl, hep⟩, c, _, rfl, -, hl, d, _, rfl, -, ⟨role, rfl, hrole⟩, e, _, rfl, -, ⟨used, rfl, hused⟩, f, _, rfl, -, ⟨data, rfl, -⟩, rfl⟩ := h
  obtain ⟨s, i, rfl, hs, hi⟩ := lab_of hl
  obtain ⟨used, rfl, hu⟩ := u16_of hused
  exact ⟨⟨no, ep, s, i, role, used, data⟩, rfl, ⟨i64_of hno, i64_of hep, hs, hi, i64_of hrole, hu⟩⟩
theorem msgs_of : ∀ {es : List (List PV)}, (∀ r ∈ es, r.length = 7 ∧ wt shMsg r) → ∃ l : List Msg, es = msgs l ∧ ∀ m ∈ l, m.Ok
  | [], _ => ⟨[], rfl, by simp⟩
  | r :: es, h => by
    obtain ⟨l, rfl, hl⟩ := msgs_of fun q hq => h q (List.mem_cons_of_mem _ hq)
    obtain ⟨m, rfl, hm⟩ := msg_of (h r List.mem_cons_self).2
    refine ⟨m :: l, rfl, fun q hq => ?_⟩
    rcases List.mem_cons.1 hq with rfl | hq
    · exact hm
    · exact hl q hq
theorem bx_of {cs : List PV} (h : wt shBx cs) : ∃ b : Bx, cs = b.row ∧ b.Ok := by
  obtain ⟨a, _, rfl, -, ⟨next, rfl, hn⟩, b, _, rfl, -, ⟨q, rfl, -, hql, hq⟩, c, _, rfl, -, ⟨x, rfl, -, hxl, hx⟩, d, _, rfl, -, ⟨y, rfl, -, hyl, hy⟩, rfl⟩ := h
  obtain ⟨q, rfl, hq'⟩ := msgs_of hq
  obtain ⟨x, rfl, hx'⟩ := msgs_of hx
  obtain ⟨y, rfl, hy'⟩ := msgs_of hy
  rw [msgs_len] at hql hxl hyl
  exact ⟨⟨next, q, x, y⟩, rfl, ⟨i64_of hn, hq', hx', hy', len63 hql, len63 hxl, len63 hyl⟩⟩
theorem id_of {cs : List PV} (h : wt shId cs) : ∃ (s i : Nat) (k n : Int), cs = [.int .u16 s, .int .u16 i, .int .i64 k, .int .i64 n] ∧ s < 65536 ∧ i < 65536 ∧ in64 k ∧ in64 n := by
  obtain ⟨a, _, rfl, -, hl, b, _, rfl, -, ⟨k, rfl, hk⟩, c, _, rfl, -, ⟨n, rfl, hn⟩, rfl⟩ := h
  obtain ⟨s, i, rfl, hs, hi⟩ := lab_of hl
  exact ⟨s, i, k, n, rfl, hs, hi, i64_of hk, i64_of hn⟩
abbrev shMoves : Sh := .sl 2 16 (.arr 2 1 (.int .i64))
abbrev shBytes : Sh := .sl 1 1 (.int .u8)
/-- A call where the order is open, its arguments read as data. -/
theorem callK_pk {P : Program} {G : Gl} {g : FuncId} {args args' : List AV} {H : Hp} {v : AV} {k : AV → Hp → Prop} (hf : freezeAs H args = some (true, args', H)) (h : EvP P G g args' v) (hk : k v H) : CallK P G true true g [] args H k := ⟨rfl, rfl, args', hf, v, h, hk⟩
end Go.Ab.S
