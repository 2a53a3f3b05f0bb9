/- Messages are taken in the order in which they were put. No condition. -/
import Derived.Test.YtmohadlgjokgmaaBxK9
set_option linter.unusedSimpArgs false
set_option linter.unusedVariables false
namespace Go.Ab.S
open Go Go.Ab Go.Proofs
attribute [local irreducible] SemS
set_option maxRecDepth 100000
/-- An empty mailbox that one has laid. -/
theorem weak_bx0 (H : Hp) (id : Id) (hg : H.get id = some (.mrow [.p (.int .i64 0), .nils, .nils, .nils])) : Weak H (H.set id (.row [.int .i64 0, .sl [], .sl [], .sl []])) := @Weak.row H H id _ _ [.int .i64 0, .sl [], .sl [], .sl []] hg rfl hg rfl
def strsR (l : List (List UInt8)) : List (List PV) := l.map fun s => [.str s]
theorem strsR_len {l : List (List UInt8)} : (strsR l).length = l.length := by simp [strsR]
theorem strsR_get {l : List (List UInt8)} {i : Nat} (h : i < l.length) : (strsR l)[i]? = some [.str l[i]] := by rw [strsR, List.getElem?_map, List.getElem?_eq_getElem h]; rfl
theorem strsR_snoc (l : List (List UInt8)) (s : List UInt8) : strsR (l ++ [s]) = strsR l ++ [[.str s]] := by simp [strsR]
theorem app_ok1 {n : Nat} {es new : List (List PV)} (h1 : n = es.length) (h2 : es.length + new.length ≤ 100000) (h3 : (new.all fun r => r.length == 1) = true) : (true && decide (n = es.length ∧ 1 = 1 ∧ (n + new.length) * 16 ≤ 2 ^ 47 ∧ n + new.length < 2 ^ 62) && new.all fun r => r.length == 1) = true := by
  rw [h3, Bool.and_true, Bool.true_and]
  exact decide_eq_true ⟨h1, rfl, by omega, by omega⟩
def smsg (s : List UInt8) : Msg := ⟨0, 0, 0, 0, 0, 0, s⟩
/-- A mailbox in which all wait. -/
def qbox (n : Nat) (q : List Msg) : Bx := ⟨n, q, [], []⟩
theorem qbox_len (n : Nat) (q : List Msg) : (qbox n q).len = q.length := by simp [qbox, Bx.len]
theorem put_q {n : Nat} {q : List Msg} {m : Msg} (hq : q.length < 8) (hn : n ≤ 1000) : putR (qbox n q) m = (qbox (n + 1) (q ++ [{ m with no := n }]), 0) := by
  unfold putR
  rw [qbox_len, if_neg (by show ¬ (8 ≤ q.length ∨ 2147483647 ≤ (n : Int)); omega)]
  rfl
theorem put_full {n : Nat} {q : List Msg} {m : Msg} (hq : 8 ≤ q.length) : putR (qbox n q) m = (Bx.emp, 12) := by
  unfold putR
  rw [qbox_len, if_pos (.inl hq)]
def ordT (l : List (List UInt8)) (i : Nat) (w g : List (List UInt8)) : Tm := [(6, iv i), (4, .c (.os (.loc 1) w.length)), (5, .c (.os (.loc 2) g.length)), (3, .c (.ptr (.loc 0) 0)), (0, slv (strsR l))]
def ordH (n : Nat) (q : List Msg) (w g : List (List UInt8)) : Hp := ⟨[], [.row [.int .i64 n, .sl (msgs q), .sl [], .sl []], .arr 1 false (strsR w), .arr 1 false (strsR g)]⟩
theorem strs_of : ∀ {es : List (List PV)}, (∀ r ∈ es, r.length = 1 ∧ wt .str r) → ∃ l : List (List UInt8), es = strsR l
  | [], _ => ⟨[], rfl⟩
  | r :: es, h => by
    obtain ⟨l, rfl⟩ := strs_of fun q hq => h q (List.mem_cons_of_mem _ hq)
    obtain ⟨-, s, rfl, -⟩ := h r List.mem_cons_self
    exact ⟨s :: l, rfl⟩
end Go.Ab.S
