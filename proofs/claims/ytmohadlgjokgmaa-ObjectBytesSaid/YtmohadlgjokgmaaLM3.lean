/- Part of a proof; no condition. Part of a proof; no condition. Part of a proof; no condition. -/
import Derived.Test.YtmohadlgjokgmaaLN3
import Derived.Test.YtmohadlgjokgmaaLWZ
set_option linter.unusedSimpArgs false
set_option linter.unusedVariables false
namespace Go.Ab.S
open Go Go.Ab Go.Proofs
attribute [local irreducible] SemS
set_option maxRecDepth 100000
def topI : Int := 2147483647
def Msg.fine (m : Msg) : Bool := decide (0 ≤ m.no) && (decide (m.no ≤ 2147483647) && (decide (0 ≤ m.ep) && (decide (m.ep ≤ 255) && (decide (0 ≤ m.role) && (decide (m.role ≤ 15) && decide (m.data.length ≤ 32))))))
theorem Msg.fine_iff {m : Msg} : m.fine = true ↔ 0 ≤ m.no ∧ m.no ≤ 2147483647 ∧ 0 ≤ m.ep ∧ m.ep ≤ 255 ∧ 0 ≤ m.role ∧ m.role ≤ 15 ∧ m.data.length ≤ 32 := by simp [Msg.fine]
theorem message_Fine_1_ok (n most : Int) : EvP PR G f_message_Fine_1 [iv n, iv most] (bv (decide (0 ≤ n) && decide (n ≤ most))) := by
  refine EvP.of_wpf true hm c_message_Fine_1 rfl ?_
  conv => whnf
  by_cases h : 0 ≤ n
  · rw [decide_eq_true h]
    repeat' ((first | refine brP_t (by assumption) ?_ | refine brP_f (by assumption) ?_ | refine brP_t (decide_eq_true (by omega)) ?_ | refine brP_f (decide_eq_false (by omega)) ?_ | refine brP_t (nd_t (by omega)) ?_ | refine brP_f (nd_f (by omega)) ?_ | fail) <;> conv => whnf)
    rfl
  · rw [decide_eq_false h]
    repeat' ((first | refine brP_t (by assumption) ?_ | refine brP_f (by assumption) ?_ | refine brP_t (decide_eq_true (by omega)) ?_ | refine brP_f (decide_eq_false (by omega)) ?_ | refine brP_t (nd_t (by omega)) ?_ | refine brP_f (nd_f (by omega)) ?_ | fail) <;> conv => whnf)
    rfl
theorem message_Fine_ok (m : Msg) : EvP PR G f_message_Fine [.agg m.row] (bv m.fine) := by
  have h1 := message_Fine_1_ok m.no 2147483647
  have h2 := message_Fine_1_ok m.ep 255
  have h3 := message_Fine_1_ok m.role 15
  have e : m.fine = (((decide (0 ≤ m.no) && decide (m.no ≤ 2147483647)) && ((decide (0 ≤ m.ep) && decide (m.ep ≤ 255)) && ((decide (0 ≤ m.role) && decide (m.role ≤ 15)) && decide (m.data.length ≤ 32))))) := by
    unfold Msg.fine
    simp only [Bool.and_assoc]
  rw [e]
  generalize (decide (0 ≤ m.no) && decide (m.no ≤ 2147483647)) = b1 at *
  generalize (decide (0 ≤ m.ep) && decide (m.ep ≤ 255)) = b2 at *
  generalize (decide (0 ≤ m.role) && decide (m.role ≤ 15)) = b3 at *
  refine EvP.of_wpf true hm c_message_Fine rfl ?_
  conv => whnf
  cases b1
  · repeat' ((first | refine brP_t (by assumption) ?_ | refine brP_f (by assumption) ?_ | refine brP_t (decide_eq_true (by omega)) ?_ | refine brP_f (decide_eq_false (by omega)) ?_ | refine brP_t (nd_t (by omega)) ?_ | refine brP_f (nd_f (by omega)) ?_ | refine callK_pf rfl h1 ?_ | refine callK_p h1 ?_ | refine callM_p h1 rfl ?_ | refine callK_pf rfl h1 ?_ | fail) <;> conv => whnf)
    rfl
  cases b2
  · repeat' ((first | refine brP_t (by assumption) ?_ | refine brP_f (by assumption) ?_ | refine brP_t (decide_eq_true (by omega)) ?_ | refine brP_f (decide_eq_false (by omega)) ?_ | refine brP_t (nd_t (by omega)) ?_ | refine brP_f (nd_f (by omega)) ?_ | refine callK_pf rfl h1 ?_ | refine callK_pf rfl h2 ?_ | fail) <;> conv => whnf)
    rfl
  cases b3
  · repeat' ((first | refine brP_t (by assumption) ?_ | refine brP_f (by assumption) ?_ | refine brP_t (decide_eq_true (by omega)) ?_ | refine brP_f (decide_eq_false (by omega)) ?_ | refine brP_t (nd_t (by omega)) ?_ | refine brP_f (nd_f (by omega)) ?_ | refine callK_pf rfl h1 ?_ | refine callK_pf rfl h2 ?_ | refine callK_pf rfl h3 ?_ | fail) <;> conv => whnf)
    rfl
  repeat' ((first | refine brP_t (by assumption) ?_ | refine brP_f (by assumption) ?_ | refine brP_t (decide_eq_true (by omega)) ?_ | refine brP_f (decide_eq_false (by omega)) ?_ | refine brP_t (nd_t (by omega)) ?_ | refine brP_f (nd_f (by omega)) ?_ | refine callK_pf rfl h1 ?_ | refine callK_pf rfl h2 ?_ | refine callK_pf rfl h3 ?_ | fail) <;> conv => whnf)
  exact congrArg bv (decide_eq_decide.2 (by omega))
theorem R22_Fine_ok (m : Msg) : EvP PR G f_R22_Fine [.agg m.row] (bv m.fine) := by
  refine EvP.of_wpf true hm c_R22_Fine rfl ?_
  conv => whnf
  cases hf : m.fine with
  | true =>
    obtain ⟨h1, h2, h3, h4, h5, h6, h7⟩ := Msg.fine_iff.1 hf
    repeat' ((first | refine brP_t (by assumption) ?_ | refine brP_f (by assumption) ?_ | refine brP_t (decide_eq_true (by omega)) ?_ | refine brP_f (decide_eq_false (by omega)) ?_ | refine brP_t (nd_t (by omega)) ?_ | refine brP_f (nd_f (by omega)) ?_ | fail) <;> conv => whnf)
    exact congrArg bv (decide_eq_true (by omega))
  | false =>
    by_cases h1 : 0 ≤ m.no
    · by_cases h2 : m.no ≤ 2147483647
      · by_cases h3 : 0 ≤ m.ep
        · by_cases h4 : m.ep ≤ 255
          · by_cases h5 : 0 ≤ m.role
            · by_cases h6 : m.role ≤ 15
              · have h7 : ¬ m.data.length ≤ 32 := fun h7 => by
                  have := Msg.fine_iff.2 ⟨h1, h2, h3, h4, h5, h6, h7⟩
                  rw [hf] at this; cases this
                repeat' ((first | refine brP_t (by assumption) ?_ | refine brP_f (by assumption) ?_ | refine brP_t (decide_eq_true (by omega)) ?_ | refine brP_f (decide_eq_false (by omega)) ?_ | refine brP_t (nd_t (by omega)) ?_ | refine brP_f (nd_f (by omega)) ?_ | fail) <;> conv => whnf)
                exact congrArg bv (decide_eq_false (by omega))
              · repeat' ((first | refine brP_t (by assumption) ?_ | refine brP_f (by assumption) ?_ | refine brP_t (decide_eq_true (by omega)) ?_ | refine brP_f (decide_eq_false (by omega)) ?_ | refine brP_t (nd_t (by omega)) ?_ | refine brP_f (nd_f (by omega)) ?_ | fail) <;> conv => whnf)
                rfl
            · repeat' ((first | refine brP_t (by assumption) ?_ | refine brP_f (by assumption) ?_ | refine brP_t (decide_eq_true (by omega)) ?_ | refine brP_f (decide_eq_false (by omega)) ?_ | refine brP_t (nd_t (by omega)) ?_ | refine brP_f (nd_f (by omega)) ?_ | fail) <;> conv => whnf)
              rfl
          · repeat' ((first | refine brP_t (by assumption) ?_ | refine brP_f (by assumption) ?_ | refine brP_t (decide_eq_true (by omega)) ?_ | refine brP_f (decide_eq_false (by omega)) ?_ | refine brP_t (nd_t (by omega)) ?_ | refine brP_f (nd_f (by omega)) ?_ | fail) <;> conv => whnf)
            rfl
        · repeat' ((first | refine brP_t (by assumption) ?_ | refine brP_f (by assumption) ?_ | refine brP_t (decide_eq_true (by omega)) ?_ | refine brP_f (decide_eq_false (by omega)) ?_ | refine brP_t (nd_t (by omega)) ?_ | refine brP_f (nd_f (by omega)) ?_ | fail) <;> conv => whnf)
          rfl
      · repeat' ((first | refine brP_t (by assumption) ?_ | refine brP_f (by assumption) ?_ | refine brP_t (decide_eq_true (by omega)) ?_ | refine brP_f (decide_eq_false (by omega)) ?_ | refine brP_t (nd_t (by omega)) ?_ | refine brP_f (nd_f (by omega)) ?_ | fail) <;> conv => whnf)
        rfl
    · repeat' ((first | refine brP_t (by assumption) ?_ | refine brP_f (by assumption) ?_ | refine brP_t (decide_eq_true (by omega)) ?_ | refine brP_f (decide_eq_false (by omega)) ?_ | refine brP_t (nd_t (by omega)) ?_ | refine brP_f (nd_f (by omega)) ?_ | fail) <;> conv => whnf)
      rfl
def Msg.map (M : Nat → Nat) (m : Msg) : Msg := { m with s := setN M m.s, i := setN M m.i, used := setN M m.used }
/-- Are two messages equal, cell by cell? -/
theorem msg_eq (a b : Msg) : (decide (a.no = b.no) && (decide (a.ep = b.ep) && (decide ((a.s : Int) = (b.s : Int)) && (decide ((a.i : Int) = (b.i : Int)) && (decide (a.role = b.role) && (decide ((a.used : Int) = (b.used : Int)) && (decide (a.data = b.data) && true))))))) = decide (a = b) := by
  obtain ⟨a1, a2, a3, a4, a5, a6, a7⟩ := a
  obtain ⟨b1, b2, b3, b4, b5, b6, b7⟩ := b
  rw [Bool.eq_iff_iff]
  simp only [Bool.and_true, Bool.and_eq_true, decide_eq_true_eq, Msg.mk.injEq]
  constructor
  · rintro ⟨h1, h2, h3, h4, h5, h6, h7⟩
    exact ⟨h1, h2, by omega, by omega, h5, by omega, h7⟩
  · rintro ⟨h1, h2, h3, h4, h5, h6, h7⟩
    exact ⟨h1, h2, by omega, by omega, h5, by omega, h7⟩
theorem take_eq_of {a b : List Msg} {i : Nat} (ha : i < a.length) (hb : i < b.length) (h : a.take i = b.take i) (he : a[i] = b[i]) : a.take (i + 1) = b.take (i + 1) := by
  rw [List.take_succ_eq_append_getElem ha, List.take_succ_eq_append_getElem hb, h, he]
theorem Equal_msg_ok (a b : List Msg) (hl : a.length < 2 ^ 63) : EvP PR G f_slices_Equal_api_Message [slv (msgs a), slv (msgs b)] (bv (decide (a = b))) := by
  have la := msgs_len (l := a)
  have lb := msgs_len (l := b)
  refine EvP.of_wpf false hm c_slices_Equal_api_Message rfl ?_
  refine wpf_seq1 ?_
  conv => whnf
  by_cases hlen : a.length = b.length
  case neg =>
    have e : decide (a = b) = false := decide_eq_false fun h => hlen (by rw [h])
    rw [e]
    repeat' ((first | refine brP_t (by assumption) ?_ | refine brP_f (by assumption) ?_ | refine brP_t (decide_eq_true (by omega)) ?_ | refine brP_f (decide_eq_false (by omega)) ?_ | refine brP_t (nd_t (by omega)) ?_ | refine brP_f (nd_f (by omega)) ?_ | refine wpfS_seq1 ?_ | refine wpfS_go ?_ | fail) <;> conv => whnf)
    rfl
  repeat' ((first | refine brP_t (by assumption) ?_ | refine brP_f (by assumption) ?_ | refine brP_t (decide_eq_true (by omega)) ?_ | refine brP_f (decide_eq_false (by omega)) ?_ | refine brP_t (nd_t (by omega)) ?_ | refine brP_f (nd_f (by omega)) ?_ | refine wpfS_seq1 ?_ | refine wpfS_go ?_ | fail) <;> conv => whnf)
  refine SemS.loopF false hm (σ := Nat) (fun i => [(13, iv i), (12, iv a.length), (0, slv (msgs a)), (1, slv (msgs b))]) (fun _ => ⟨[], []⟩) (fun i => a.length - i) (fun i => i ≤ a.length ∧ a.take i = b.take i) 0 ⟨Nat.zero_le _, rfl⟩ ⟨rfl, by rw [la]; rfl, rfl, rfl, trivial⟩ rfl ?_
  rintro i ⟨hi, hpre⟩
  refine wpf_seq1 ?_
  conv => whnf
  refine wpfS_seq1 ?_
  conv => whnf
  refine brP_mk (fun h => ?_) (fun h => ?_)
  · have hia : i < a.length := by have := of_decide_eq_true h; omega
    have hib : i < b.length := by omega
    clear h
    have ga := msgs_get hia
    have gb := msgs_get hib
    have hw2 : IntKind.i64.wrap ((i : Int) + 1) = ((i + 1 : Nat) : Int) := by rw [wrap64 (by omega)]; rfl
    have hme := msg_eq a[i] b[i]
    by_cases he : a[i] = b[i]
    · have hn := take_eq_of hia hib hpre he
      rw [decide_eq_true he] at hme
      generalize a[i] = x at *
      generalize b[i] = y at *
      repeat' ((first | refine brP_t (by assumption) ?_ | refine brP_f (by assumption) ?_ | refine brP_t (decide_eq_true (by omega)) ?_ | refine brP_f (decide_eq_false (by omega)) ?_ | refine brP_t (nd_t (by omega)) ?_ | refine brP_f (nd_f (by omega)) ?_ | ((conv in (opS _ _ _ _) => whnf); rw [Int.toNat_natCast, ga]) | ((conv in (opM _ _ _ _ _) => whnf); (conv in (opS _ _ _ _) => whnf); rw [Int.toNat_natCast, ga]) | ((conv in (opS _ _ _ _) => whnf); rw [Int.toNat_natCast, gb]) | ((conv in (opM _ _ _ _ _) => whnf); (conv in (opS _ _ _ _) => whnf); rw [Int.toNat_natCast, gb]) | ((rw [hme])) | refine wpfS_seq1 ?_ | refine wpfS_go ?_ | fail) <;> conv => whnf)
      rw [hw2]
      exact ⟨i + 1, ⟨hia, hn⟩, (show a.length - (i + 1) < a.length - i by omega), ⟨rfl, rfl, rfl, rfl, trivial⟩, rfl⟩
    · have e : decide (a = b) = false := decide_eq_false fun h => he (by subst h; rfl)
      rw [decide_eq_false he] at hme
      rw [e]
      generalize a[i] = x at *
      generalize b[i] = y at *
      repeat' ((first | refine brP_t (by assumption) ?_ | refine brP_f (by assumption) ?_ | refine brP_t (decide_eq_true (by omega)) ?_ | refine brP_f (decide_eq_false (by omega)) ?_ | refine brP_t (nd_t (by omega)) ?_ | refine brP_f (nd_f (by omega)) ?_ | ((conv in (opS _ _ _ _) => whnf); rw [Int.toNat_natCast, ga]) | ((conv in (opM _ _ _ _ _) => whnf); (conv in (opS _ _ _ _) => whnf); rw [Int.toNat_natCast, ga]) | ((conv in (opS _ _ _ _) => whnf); rw [Int.toNat_natCast, gb]) | ((conv in (opM _ _ _ _ _) => whnf); (conv in (opS _ _ _ _) => whnf); rw [Int.toNat_natCast, gb]) | ((rw [hme])) | refine wpfS_seq1 ?_ | refine wpfS_go ?_ | fail) <;> conv => whnf)
      rfl
  · have hia : i = a.length := by have := of_decide_eq_false h; omega
    subst hia
    clear h
    rw [List.take_length, hlen, List.take_length] at hpre
    rw [decide_eq_true hpre]
    conv => whnf
    repeat' ((first | refine brP_t (by assumption) ?_ | refine brP_f (by assumption) ?_ | refine brP_t (decide_eq_true (by omega)) ?_ | refine brP_f (decide_eq_false (by omega)) ?_ | refine brP_t (nd_t (by omega)) ?_ | refine brP_f (nd_f (by omega)) ?_ | refine wpfS_seq1 ?_ | refine wpfS_go ?_ | fail) <;> conv => whnf)
    rfl
theorem message_Same_ok (a b : List Msg) (hl : a.length < 2 ^ 63) : EvP PR G f_message_Same [slv (msgs a), slv (msgs b)] (bv (decide (a = b))) := by
  have h := Equal_msg_ok a b hl
  refine EvP.of_wpf false hm c_message_Same rfl ?_
  conv => whnf
  repeat' ((first | refine brP_t (by assumption) ?_ | refine brP_f (by assumption) ?_ | refine brP_t (decide_eq_true (by omega)) ?_ | refine brP_f (decide_eq_false (by omega)) ?_ | refine brP_t (nd_t (by omega)) ?_ | refine brP_f (nd_f (by omega)) ?_ | refine callK_p h ?_ | refine callM_p h rfl ?_ | refine callK_pf rfl h ?_ | refine wpfS_seq1 ?_ | refine wpfS_go ?_ | fail) <;> conv => whnf)
  rfl
theorem R22_Same_ok (a b : List Msg) (hl : a.length < 2 ^ 63) : EvP PR G f_R22_Same [slv (msgs a), slv (msgs b)] (bv (decide (a = b))) := by
  have la := msgs_len (l := a)
  have lb := msgs_len (l := b)
  refine EvP.of_wpf false hm c_R22_Same rfl ?_
  refine wpf_seq1 ?_
  conv => whnf
  by_cases hlen : a.length = b.length
  case neg =>
    have e : decide (a = b) = false := decide_eq_false fun h => hlen (by rw [h])
    rw [e]
    repeat' ((first | refine brP_t (by assumption) ?_ | refine brP_f (by assumption) ?_ | refine brP_t (decide_eq_true (by omega)) ?_ | refine brP_f (decide_eq_false (by omega)) ?_ | refine brP_t (nd_t (by omega)) ?_ | refine brP_f (nd_f (by omega)) ?_ | refine wpfS_seq1 ?_ | refine wpfS_go ?_ | fail) <;> conv => whnf)
    rfl
  repeat' ((first | refine brP_t (by assumption) ?_ | refine brP_f (by assumption) ?_ | refine brP_t (decide_eq_true (by omega)) ?_ | refine brP_f (decide_eq_false (by omega)) ?_ | refine brP_t (nd_t (by omega)) ?_ | refine brP_f (nd_f (by omega)) ?_ | refine wpfS_seq1 ?_ | refine wpfS_go ?_ | fail) <;> conv => whnf)
  refine SemS.loopF false hm (σ := Nat) (fun i => [(5, iv i), (0, slv (msgs a)), (1, slv (msgs b))]) (fun _ => ⟨[], []⟩) (fun i => a.length - i) (fun i => i ≤ a.length ∧ a.take i = b.take i) 0 ⟨Nat.zero_le _, rfl⟩ ⟨rfl, rfl, rfl, trivial⟩ rfl ?_
  rintro i ⟨hi, hpre⟩
  refine wpf_seq1 ?_
  conv => whnf
  rw [la]
  refine brP_mk (fun h => ?_) (fun h => ?_)
  · have hia : i < a.length := by have := of_decide_eq_true h; omega
    have hib : i < b.length := by omega
    clear h
    have ga := msgs_get hia
    have gb := msgs_get hib
    have hw2 : IntKind.i64.wrap ((i : Int) + 1) = ((i + 1 : Nat) : Int) := by rw [wrap64 (by omega)]; rfl
    have hme := msg_eq a[i] b[i]
    by_cases he : a[i] = b[i]
    · have hn := take_eq_of hia hib hpre he
      rw [decide_eq_true he] at hme
      generalize a[i] = x at *
      generalize b[i] = y at *
      repeat' ((first | refine brP_t (by assumption) ?_ | refine brP_f (by assumption) ?_ | refine brP_t (decide_eq_true (by omega)) ?_ | refine brP_f (decide_eq_false (by omega)) ?_ | refine brP_t (nd_t (by omega)) ?_ | refine brP_f (nd_f (by omega)) ?_ | ((conv in (opS _ _ _ _) => whnf); rw [Int.toNat_natCast, ga]) | ((conv in (opM _ _ _ _ _) => whnf); (conv in (opS _ _ _ _) => whnf); rw [Int.toNat_natCast, ga]) | ((conv in (opS _ _ _ _) => whnf); rw [Int.toNat_natCast, gb]) | ((conv in (opM _ _ _ _ _) => whnf); (conv in (opS _ _ _ _) => whnf); rw [Int.toNat_natCast, gb]) | ((rw [hme])) | refine wpfS_seq1 ?_ | refine wpfS_go ?_ | fail) <;> conv => whnf)
      rw [hw2]
      exact ⟨i + 1, ⟨hia, hn⟩, (show a.length - (i + 1) < a.length - i by omega), ⟨rfl, rfl, rfl, trivial⟩, rfl⟩
    · have e : decide (a = b) = false := decide_eq_false fun h => he (by subst h; rfl)
      rw [decide_eq_false he] at hme
      rw [e]
      generalize a[i] = x at *
      generalize b[i] = y at *
      repeat' ((first | refine brP_t (by assumption) ?_ | refine brP_f (by assumption) ?_ | refine brP_t (decide_eq_true (by omega)) ?_ | refine brP_f (decide_eq_false (by omega)) ?_ | refine brP_t (nd_t (by omega)) ?_ | refine brP_f (nd_f (by omega)) ?_ | ((conv in (opS _ _ _ _) => whnf); rw [Int.toNat_natCast, ga]) | ((conv in (opM _ _ _ _ _) => whnf); (conv in (opS _ _ _ _) => whnf); rw [Int.toNat_natCast, ga]) | ((conv in (opS _ _ _ _) => whnf); rw [Int.toNat_natCast, gb]) | ((conv in (opM _ _ _ _ _) => whnf); (conv in (opS _ _ _ _) => whnf); rw [Int.toNat_natCast, gb]) | ((rw [hme])) | refine wpfS_seq1 ?_ | refine wpfS_go ?_ | fail) <;> conv => whnf)
      rfl
  · have hia : i = a.length := by have := of_decide_eq_false h; omega
    subst hia
    clear h
    rw [List.take_length, hlen, List.take_length] at hpre
    rw [decide_eq_true hpre]
    conv => whnf
    repeat' ((first | refine brP_t (by assumption) ?_ | refine brP_f (by assumption) ?_ | refine brP_t (decide_eq_true (by omega)) ?_ | refine brP_f (decide_eq_false (by omega)) ?_ | refine brP_t (nd_t (by omega)) ?_ | refine brP_f (nd_f (by omega)) ?_ | refine wpfS_seq1 ?_ | refine wpfS_go ?_ | fail) <;> conv => whnf)
    rfl
end Go.Ab.S

namespace Go.Ab.S
open Go Go.Ab Go.Proofs
attribute [local irreducible] SemS
set_option maxRecDepth 100000
/-- A message, read. -/
def Msg.rd (keep : Bool) (s0 : St) : Msg × St :=
  let s1 := s0.num keep 4 2147483647
  let s2 := s1.num keep 1 255
  let s3 := s2.num keep 2 65535
  let s4 := s3.num keep 2 65535
  let s5 := s4.num keep 1 15
  let s6 := s5.num keep 2 65535
  (⟨s0.nv 4 2147483647, s1.nv 1 255, (s2.nv 2 65535).toNat, (s3.nv 2 65535).toNat, s4.nv 1 15, (s5.nv 2 65535).toNat, s6.tv 32⟩, s6.txt keep 32)
theorem message_one_ok (s : St) : EvR PR G f_message_one [.c (.ptr (.par 0) 0)] ⟨s.pr, []⟩ (.agg (Msg.rd true s).1.row) ⟨(Msg.rd true s).2.pr, []⟩ := by
  unfold Msg.rd
  dsimp only
  have c0 := pr_num s 4 2147483647 (by omega)
  generalize s.num true 4 2147483647 = s1 at *
  have c1 := pr_num s1 1 255 (by omega)
  generalize s1.num true 1 255 = s2 at *
  have c2 := pr_num s2 2 65535 (by omega)
  have u2 := nv_u16 (s := s2) (size := 2)
  generalize s2.num true 2 65535 = s3 at *
  have c3 := pr_num s3 2 65535 (by omega)
  have u3 := nv_u16 (s := s3) (size := 2)
  generalize s3.num true 2 65535 = s4 at *
  have c4 := pr_num s4 1 15 (by omega)
  generalize s4.num true 1 15 = s5 at *
  have c5 := pr_num s5 2 65535 (by omega)
  have u5 := nv_u16 (s := s5) (size := 2)
  generalize s5.num true 2 65535 = s6 at *
  have c6 := pr_txt s6 32
  generalize s6.txt true 32 = s7 at *
  generalize s.nv 4 2147483647 = v0 at *
  generalize s1.nv 1 255 = v1 at *
  generalize s2.nv 2 65535 = v2 at *
  generalize s3.nv 2 65535 = v3 at *
  generalize s4.nv 1 15 = v4 at *
  generalize s5.nv 2 65535 = v5 at *
  generalize s6.tv 32 = v6 at *
  refine EvR.of_wpfC false false hm c_message_one rfl rfl ?_
  conv => whnf
  repeat' ((first | refine brP_t (by assumption) ?_ | refine brP_f (by assumption) ?_ | refine brP_t (decide_eq_true (by omega)) ?_ | refine brP_f (decide_eq_false (by omega)) ?_ | refine brP_t (nd_t (by omega)) ?_ | refine brP_f (nd_f (by omega)) ?_ | refine callK_r (EvR.fr [_] c0 rfl rfl ⟨rfl, trivial⟩ rfl) ?_ | refine callM_l (LEv.fr [_] c0 rfl rfl ⟨rfl, trivial⟩ rfl rfl) ?_ | refine callK_rt (EvR.fr [_] c0 rfl rfl ⟨rfl, trivial⟩ rfl) ?_ | refine callK_rf rfl (EvR.fr [_] c0 rfl rfl ⟨rfl, trivial⟩ rfl) ?_ | refine callK_rft rfl (EvR.fr [_] c0 rfl rfl ⟨rfl, trivial⟩ rfl) ?_ | refine callK_r (EvR.fr [_] c1 rfl rfl ⟨rfl, trivial⟩ rfl) ?_ | refine callM_l (LEv.fr [_] c1 rfl rfl ⟨rfl, trivial⟩ rfl rfl) ?_ | refine callK_rt (EvR.fr [_] c1 rfl rfl ⟨rfl, trivial⟩ rfl) ?_ | refine callK_rf rfl (EvR.fr [_] c1 rfl rfl ⟨rfl, trivial⟩ rfl) ?_ | refine callK_rft rfl (EvR.fr [_] c1 rfl rfl ⟨rfl, trivial⟩ rfl) ?_ | refine callK_r (EvR.fr [_] c2 rfl rfl ⟨rfl, trivial⟩ rfl) ?_ | refine callM_l (LEv.fr [_] c2 rfl rfl ⟨rfl, trivial⟩ rfl rfl) ?_ | refine callK_rt (EvR.fr [_] c2 rfl rfl ⟨rfl, trivial⟩ rfl) ?_ | refine callK_rf rfl (EvR.fr [_] c2 rfl rfl ⟨rfl, trivial⟩ rfl) ?_ | refine callK_rft rfl (EvR.fr [_] c2 rfl rfl ⟨rfl, trivial⟩ rfl) ?_ | refine callK_r (EvR.fr [_] c3 rfl rfl ⟨rfl, trivial⟩ rfl) ?_ | refine callM_l (LEv.fr [_] c3 rfl rfl ⟨rfl, trivial⟩ rfl rfl) ?_ | refine callK_rt (EvR.fr [_] c3 rfl rfl ⟨rfl, trivial⟩ rfl) ?_ | refine callK_rf rfl (EvR.fr [_] c3 rfl rfl ⟨rfl, trivial⟩ rfl) ?_ | refine callK_rft rfl (EvR.fr [_] c3 rfl rfl ⟨rfl, trivial⟩ rfl) ?_ | refine callK_r (EvR.fr [_] c4 rfl rfl ⟨rfl, trivial⟩ rfl) ?_ | refine callM_l (LEv.fr [_] c4 rfl rfl ⟨rfl, trivial⟩ rfl rfl) ?_ | refine callK_rt (EvR.fr [_] c4 rfl rfl ⟨rfl, trivial⟩ rfl) ?_ | refine callK_rf rfl (EvR.fr [_] c4 rfl rfl ⟨rfl, trivial⟩ rfl) ?_ | refine callK_rft rfl (EvR.fr [_] c4 rfl rfl ⟨rfl, trivial⟩ rfl) ?_ | refine callK_r (EvR.fr [_] c5 rfl rfl ⟨rfl, trivial⟩ rfl) ?_ | refine callM_l (LEv.fr [_] c5 rfl rfl ⟨rfl, trivial⟩ rfl rfl) ?_ | refine callK_rt (EvR.fr [_] c5 rfl rfl ⟨rfl, trivial⟩ rfl) ?_ | refine callK_rf rfl (EvR.fr [_] c5 rfl rfl ⟨rfl, trivial⟩ rfl) ?_ | refine callK_rft rfl (EvR.fr [_] c5 rfl rfl ⟨rfl, trivial⟩ rfl) ?_ | refine callK_r (EvR.fr [_] c6 rfl rfl ⟨rfl, trivial⟩ rfl) ?_ | refine callM_l (LEv.fr [_] c6 rfl rfl ⟨rfl, trivial⟩ rfl rfl) ?_ | refine callK_rt (EvR.fr [_] c6 rfl rfl ⟨rfl, trivial⟩ rfl) ?_ | refine callK_rf rfl (EvR.fr [_] c6 rfl rfl ⟨rfl, trivial⟩ rfl) ?_ | refine callK_rft rfl (EvR.fr [_] c6 rfl rfl ⟨rfl, trivial⟩ rfl) ?_ | refine wpfS_seq1 ?_ | refine wpfS_go ?_ | fail) <;> conv => whnf)
  rw [u2, u3, u5]
  exact ⟨rfl, rfl⟩
def Msg.rds (keep : Bool) : Nat → St → List Msg × St
  | 0, s => ([], s)
  | n + 1, s => if (Msg.rd keep s).2.e ≠ 0 then ([], (Msg.rd keep s).2) else ((Msg.rd keep s).1 :: (Msg.rds keep n (Msg.rd keep s).2).1, (Msg.rds keep n (Msg.rd keep s).2).2)
/-- Messages, read. -/
def Msg.rdL (keep : Bool) (s : St) : List Msg × St :=
  let r := Msg.rds keep (s.nv 1 255).toNat (s.num keep 1 255)
  (if r.2.e ≠ 0 then [] else r.1, r.2)
theorem message_Read_ok (s : St) : EvR PR G f_message_Read [.c (.ptr (.par 0) 0)] ⟨s.pr, []⟩ (slv (msgs (Msg.rdL true s).1)) ⟨(Msg.rdL true s).2.pr, []⟩ := by
  unfold Msg.rdL
  dsimp only
  have c0 := pr_num s 1 255 (by omega)
  have hr := nv_range (s := s) (size := 1) (most := 255) (by omega)
  have herr : (s.num true 1 255).e ≠ 0 → s.nv 1 255 = 0 := by
    intro h
    unfold St.num at h
    unfold St.nv
    have h : numE s.e s.b 1 255 ≠ 0 := h
    unfold numE at h
    unfold numV
    split
    · rfl
    · rename_i h1
      rw [if_neg h1] at h
      split
      · rfl
      · rename_i h2
        rw [if_neg h2] at h
        split
        · rfl
        · rename_i h3
          rw [if_neg h3] at h
          split
          · rfl
          · rename_i h4
            rw [if_neg h4] at h
            exact absurd rfl h
  generalize s.num true 1 255 = s1 at *
  obtain ⟨n, hn⟩ : ∃ n : Nat, s.nv 1 255 = n := ⟨(s.nv 1 255).toNat, by omega⟩
  rw [hn] at c0 hr herr ⊢
  rw [Int.toNat_natCast]
  clear hn
  refine EvR.of_wpfC false true hm c_message_Read rfl rfl ?_
  refine wpf_seq1 ?_
  conv => whnf
  repeat' ((first | refine brP_t (by assumption) ?_ | refine brP_f (by assumption) ?_ | refine brP_t (decide_eq_true (by omega)) ?_ | refine brP_f (decide_eq_false (by omega)) ?_ | refine brP_t (nd_t (by omega)) ?_ | refine brP_f (nd_f (by omega)) ?_ | refine callK_r (EvR.fr [_] c0 rfl rfl ⟨rfl, trivial⟩ rfl) ?_ | refine callM_l (LEv.fr [_] c0 rfl rfl ⟨rfl, trivial⟩ rfl rfl) ?_ | refine callK_rt (EvR.fr [_] c0 rfl rfl ⟨rfl, trivial⟩ rfl) ?_ | refine callK_rf rfl (EvR.fr [_] c0 rfl rfl ⟨rfl, trivial⟩ rfl) ?_ | refine callK_rft rfl (EvR.fr [_] c0 rfl rfl ⟨rfl, trivial⟩ rfl) ?_ | refine wpfS_seq1 ?_ | refine wpfS_go ?_ | fail) <;> conv => whnf)
  by_cases he : s1.e = 0
  case neg =>
    have hn0 : n = 0 := by have := herr he; omega
    subst hn0
    have e1 : Msg.rds true 0 s1 = ([], s1) := rfl
    rw [e1, if_pos he]
    refine SemS.loop1 false hm ?_
    refine wpf_seq1 ?_
    conv => whnf
    repeat' ((first | refine brP_t (by assumption) ?_ | refine brP_f (by assumption) ?_ | refine brP_t (decide_eq_true (by omega)) ?_ | refine brP_f (decide_eq_false (by omega)) ?_ | refine brP_t (nd_t (by omega)) ?_ | refine brP_f (nd_f (by omega)) ?_ | refine wpfS_seq1 ?_ | refine wpfS_go ?_ | fail) <;> conv => whnf)
    exact ⟨rfl, rfl⟩
  clear herr
  refine SemS.nilT 3 7 (by omega) rfl ?_
  refine SemS.loopF false hm (σ := Nat × List Msg × St) (fun q => [(6, iv q.1), (5, iv n), (0, .c (.ptr (.par 0) 0)), (3, .c (.os (.loc 0) q.1))]) (fun q => ⟨q.2.2.pr, [.arr 7 false (msgs q.2.1)]⟩) (fun q => n - q.1)
    (fun q => q.1 ≤ n ∧ q.2.1.length = q.1 ∧ q.2.2.e = 0 ∧ Msg.rds true n s1 = (q.2.1 ++ (Msg.rds true (n - q.1) q.2.2).1, (Msg.rds true (n - q.1) q.2.2).2)) (0, [], s1) ⟨Nat.zero_le _, rfl, he, rfl⟩ ⟨rfl, rfl, rfl, rfl, trivial⟩ rfl ?_
  rintro ⟨i, acc, t⟩ ⟨hi, hacc, ht, hspec⟩
  have hi : i ≤ n := hi
  have hacc : acc.length = i := hacc
  have ht : t.e = 0 := ht
  have hspec : Msg.rds true n s1 = (acc ++ (Msg.rds true (n - i) t).1, (Msg.rds true (n - i) t).2) := hspec
  show wpf PR G false _ _ [(6, iv i), (5, iv n), (0, .c (.ptr (.par 0) 0)), (3, .c (.os (.loc 0) i))] ⟨t.pr, [.arr 7 false (msgs acc)]⟩ _
  by_cases hlt : i < n
  · have c1 := message_one_ok t
    have c2 := pr_err (Msg.rd true t).2
    have hw2 : IntKind.i64.wrap ((i : Int) + 1) = ((i + 1 : Nat) : Int) := by rw [wrap64 (by omega)]; rfl
    have hml := msgs_len (l := acc)
    have hstep : Msg.rds true (n - i) t = if (Msg.rd true t).2.e ≠ 0 then ([], (Msg.rd true t).2) else ((Msg.rd true t).1 :: (Msg.rds true (n - (i + 1)) (Msg.rd true t).2).1, (Msg.rds true (n - (i + 1)) (Msg.rd true t).2).2) := by
      rw [show n - i = (n - (i + 1)) + 1 by omega]; rfl
    rw [hstep] at hspec
    clear hstep
    generalize hrd : Msg.rd true t = q at *
    obtain ⟨m, t'⟩ := q
    dsimp only at *
    by_cases he' : t'.e = 0
    · rw [if_neg (by simp [he'])] at hspec
      refine wpf_seq1 ?_
      conv => whnf
      repeat' ((first | refine brP_t (by assumption) ?_ | refine brP_f (by assumption) ?_ | refine brP_t (decide_eq_true (by omega)) ?_ | refine brP_f (decide_eq_false (by omega)) ?_ | refine brP_t (nd_t (by omega)) ?_ | refine brP_f (nd_f (by omega)) ?_ | refine callK_r (EvR.fr [_] c1 rfl rfl ⟨rfl, trivial⟩ rfl) ?_ | refine callM_l (LEv.fr [_] c1 rfl rfl ⟨rfl, trivial⟩ rfl rfl) ?_ | refine callK_rt (EvR.fr [_] c1 rfl rfl ⟨rfl, trivial⟩ rfl) ?_ | refine callK_rf rfl (EvR.fr [_] c1 rfl rfl ⟨rfl, trivial⟩ rfl) ?_ | refine callK_rft rfl (EvR.fr [_] c1 rfl rfl ⟨rfl, trivial⟩ rfl) ?_ | refine callK_r (EvR.fr [_] c2 rfl rfl ⟨rfl, trivial⟩ rfl) ?_ | refine callM_l (LEv.fr [_] c2 rfl rfl ⟨rfl, trivial⟩ rfl rfl) ?_ | refine callK_rt (EvR.fr [_] c2 rfl rfl ⟨rfl, trivial⟩ rfl) ?_ | refine callK_rf rfl (EvR.fr [_] c2 rfl rfl ⟨rfl, trivial⟩ rfl) ?_ | refine callK_rft rfl (EvR.fr [_] c2 rfl rfl ⟨rfl, trivial⟩ rfl) ?_ | (refine gd_mk ?_ ?_; focus (simp [hml, hacc, Msg.row]; omega; done)) | refine wpfS_seq1 ?_ | refine wpfS_go ?_ | fail) <;> conv => whnf)
      rw [hw2]
      refine ⟨(i + 1, acc ++ [m], t'), ⟨hlt, by simp [hacc], he', ?_⟩, (show n - (i + 1) < n - i by omega), ⟨rfl, rfl, rfl, rfl, trivial⟩, ?_⟩
      · rw [hspec]; simp
      · show _ = (⟨t'.pr, [.arr 7 false (msgs (acc ++ [m]))]⟩ : Hp)
        rw [msgs_app]; rfl
    · rw [if_pos he'] at hspec
      rw [hspec, if_pos he']
      refine wpf_seq1 ?_
      conv => whnf
      repeat' ((first | refine brP_t (by assumption) ?_ | refine brP_f (by assumption) ?_ | refine brP_t (decide_eq_true (by omega)) ?_ | refine brP_f (decide_eq_false (by omega)) ?_ | refine brP_t (nd_t (by omega)) ?_ | refine brP_f (nd_f (by omega)) ?_ | refine callK_r (EvR.fr [_] c1 rfl rfl ⟨rfl, trivial⟩ rfl) ?_ | refine callM_l (LEv.fr [_] c1 rfl rfl ⟨rfl, trivial⟩ rfl rfl) ?_ | refine callK_rt (EvR.fr [_] c1 rfl rfl ⟨rfl, trivial⟩ rfl) ?_ | refine callK_rf rfl (EvR.fr [_] c1 rfl rfl ⟨rfl, trivial⟩ rfl) ?_ | refine callK_rft rfl (EvR.fr [_] c1 rfl rfl ⟨rfl, trivial⟩ rfl) ?_ | refine callK_r (EvR.fr [_] c2 rfl rfl ⟨rfl, trivial⟩ rfl) ?_ | refine callM_l (LEv.fr [_] c2 rfl rfl ⟨rfl, trivial⟩ rfl rfl) ?_ | refine callK_rt (EvR.fr [_] c2 rfl rfl ⟨rfl, trivial⟩ rfl) ?_ | refine callK_rf rfl (EvR.fr [_] c2 rfl rfl ⟨rfl, trivial⟩ rfl) ?_ | refine callK_rft rfl (EvR.fr [_] c2 rfl rfl ⟨rfl, trivial⟩ rfl) ?_ | (refine gd_mk ?_ ?_; focus (simp [hml, hacc, Msg.row]; omega; done)) | refine wpfS_seq1 ?_ | refine wpfS_go ?_ | fail) <;> conv => whnf)
      exact ⟨rfl, rfl⟩
  · have hin : i = n := by omega
    subst hin
    have e1 : Msg.rds true (i - i) t = ([], t) := by rw [Nat.sub_self]; rfl
    rw [e1] at hspec
    rw [hspec, if_neg (by simp [ht])]
    have hml := msgs_len (l := acc)
    refine wpf_seq1 ?_
    conv => whnf
    repeat' ((first | refine brP_t (by assumption) ?_ | refine brP_f (by assumption) ?_ | refine brP_t (decide_eq_true (by omega)) ?_ | refine brP_f (decide_eq_false (by omega)) ?_ | refine brP_t (nd_t (by omega)) ?_ | refine brP_f (nd_f (by omega)) ?_ | (refine gd_mk ?_ ?_; focus (simp [hml, hacc]; done)) | refine wpfS_seq1 ?_ | refine wpfS_go ?_ | fail) <;> conv => whnf)
    rw [List.append_nil]
    exact ⟨rfl, rfl⟩
end Go.Ab.S

namespace Go.Ab.S
open Go Go.Ab Go.Proofs
attribute [local irreducible] SemS
set_option maxRecDepth 100000
theorem Msg.rd_suf {B : List UInt8} {s : St} (h : Suf B s.b) (keep : Bool) : Suf B (Msg.rd keep s).2.b :=
  ((((((h.num keep 4 2147483647).num keep 1 255).num keep 2 65535).num keep 2 65535).num keep 1 15).num keep 2 65535).txt keep 32
set_option maxHeartbeats 1000000 in
theorem R22_Read_ok (B : List UInt8) (hB : B.length < 2 ^ 40) (s : St) (hs : Suf B s.b) : EvR PR G f_R22_Read [.c (.ptr (.par 0) 0)] ⟨s.px B, []⟩ (slv (msgs (Msg.rdL false s).1)) ⟨(Msg.rdL false s).2.px B, []⟩ := by
  unfold Msg.rdL
  dsimp only
  have c0 := px_byte hs (by omega) 255 (by omega)
  have hs1 := hs.num false 1 255
  have hr := nv_range (s := s) (size := 1) (most := 255) (by omega)
  have herr := nv_err (s := s) (keep := false)
  generalize s.num false 1 255 = s1 at *
  obtain ⟨n, hn⟩ : ∃ n : Nat, s.nv 1 255 = n := ⟨(s.nv 1 255).toNat, by omega⟩
  rw [hn] at c0 hr herr ⊢
  rw [Int.toNat_natCast]
  clear hn hs
  refine EvR.of_wpfC false true hm c_R22_Read rfl rfl ?_
  refine wpf_seq1 ?_
  conv => whnf
  repeat' ((first | refine brP_t (by assumption) ?_ | refine brP_f (by assumption) ?_ | refine brP_t (decide_eq_true (by omega)) ?_ | refine brP_f (decide_eq_false (by omega)) ?_ | refine brP_t (nd_t (by omega)) ?_ | refine brP_f (nd_f (by omega)) ?_ | refine callK_r (EvR.fr [_] c0 rfl rfl ⟨rfl, trivial⟩ rfl) ?_ | refine callM_l (LEv.fr [_] c0 rfl rfl ⟨rfl, trivial⟩ rfl rfl) ?_ | refine callK_rt (EvR.fr [_] c0 rfl rfl ⟨rfl, trivial⟩ rfl) ?_ | refine callK_rf rfl (EvR.fr [_] c0 rfl rfl ⟨rfl, trivial⟩ rfl) ?_ | refine callK_rft rfl (EvR.fr [_] c0 rfl rfl ⟨rfl, trivial⟩ rfl) ?_ | refine wpfS_seq1 ?_ | refine wpfS_go ?_ | fail) <;> conv => whnf)
  by_cases he : s1.e = 0
  case neg =>
    have hn0 : n = 0 := by have := herr he; omega
    subst hn0
    have e1 : Msg.rds false 0 s1 = ([], s1) := rfl
    rw [e1, if_pos he]
    refine SemS.loop1 false hm ?_
    refine wpf_seq1 ?_
    conv => whnf
    repeat' ((first | refine brP_t (by assumption) ?_ | refine brP_f (by assumption) ?_ | refine brP_t (decide_eq_true (by omega)) ?_ | refine brP_f (decide_eq_false (by omega)) ?_ | refine brP_t (nd_t (by omega)) ?_ | refine brP_f (nd_f (by omega)) ?_ | refine wpfS_seq1 ?_ | refine wpfS_go ?_ | fail) <;> conv => whnf)
    exact ⟨rfl, rfl⟩
  clear herr
  refine SemS.nilT 4 7 (by omega) rfl ?_
  refine SemS.loopC false hm (σ := Nat × List Msg × St × Bool) (fun q => [(5, iv q.1), (3, iv n), (0, .c (.ptr (.par 0) 0)), (4, .c (.os (.loc 0) q.1))]) (fun q => ⟨q.2.2.1.px B, [.arr 7 false (msgs q.2.1)]⟩) (fun q => match q.2.2.2 with | true => 0 | false => 1 + n - q.1)
    (fun q => q.1 ≤ n ∧ q.2.1.length = q.1 ∧ Suf B q.2.2.1.b ∧ match q.2.2.2 with
      | false => q.2.2.1.e = 0 ∧ Msg.rds false n s1 = (q.2.1 ++ (Msg.rds false (n - q.1) q.2.2.1).1, (Msg.rds false (n - q.1) q.2.2.1).2)
      | true => q.2.2.1.e ≠ 0 ∧ (Msg.rds false n s1).2 = q.2.2.1) (0, [], s1, false) ⟨Nat.zero_le _, rfl, hs1, he, rfl⟩ ⟨rfl, rfl, rfl, rfl, trivial⟩ rfl ?_
  rintro ⟨i, acc, t, b⟩ ⟨hi, hacc, hsuf, hspec⟩
  have hi : i ≤ n := hi
  have hacc : acc.length = i := hacc
  have hsuf : Suf B t.b := hsuf
  have hml := msgs_len (l := acc)
  cases b with
  | true =>
    obtain ⟨hne, hsp⟩ := hspec
    have hne : t.e ≠ 0 := hne
    have hsp : (Msg.rds false n s1).2 = t := hsp
    rw [hsp, if_pos hne]
    show wpf PR G false _ _ [(5, iv i), (3, iv n), (0, .c (.ptr (.par 0) 0)), (4, .c (.os (.loc 0) i))] ⟨t.px B, [.arr 7 false (msgs acc)]⟩ _
    by_cases hlt : (i : Int) < n
    all_goals
      refine wpf_seq1 ?_
      conv => whnf
      repeat' ((first | refine brP_t (by assumption) ?_ | refine brP_f (by assumption) ?_ | refine brP_t (decide_eq_true (by omega)) ?_ | refine brP_f (decide_eq_false (by omega)) ?_ | refine brP_t (nd_t (by omega)) ?_ | refine brP_f (nd_f (by omega)) ?_ | refine wpfS_seq1 ?_ | refine wpfS_go ?_ | fail) <;> conv => whnf)
      exact ⟨rfl, rfl⟩
  | false =>
    obtain ⟨ht, hspec⟩ := hspec
    have ht : t.e = 0 := ht
    have hspec : Msg.rds false n s1 = (acc ++ (Msg.rds false (n - i) t).1, (Msg.rds false (n - i) t).2) := hspec
    show wpf PR G false _ _ [(5, iv i), (3, iv n), (0, .c (.ptr (.par 0) 0)), (4, .c (.os (.loc 0) i))] ⟨t.px B, [.arr 7 false (msgs acc)]⟩ _
    by_cases hlt : i < n
    · have hw2 : IntKind.i64.wrap ((i : Int) + 1) = ((i + 1 : Nat) : Int) := by rw [wrap64 (by omega)]; rfl
      have hstep : Msg.rds false (n - i) t = if (Msg.rd false t).2.e ≠ 0 then ([], (Msg.rd false t).2) else ((Msg.rd false t).1 :: (Msg.rds false (n - (i + 1)) (Msg.rd false t).2).1, (Msg.rds false (n - (i + 1)) (Msg.rd false t).2).2) := by
        rw [show n - i = (n - (i + 1)) + 1 by omega]; rfl
      rw [hstep] at hspec
      clear hstep
      have hsuf' := Msg.rd_suf hsuf false
      generalize hrd : Msg.rd false t = q at *
      obtain ⟨m, t'⟩ := q
      unfold Msg.rd at hrd
      dsimp only at *
      have d0 := px_num hsuf (by omega) 4 2147483647
      have f0 := hsuf.num false 4 2147483647
      generalize t.num false 4 2147483647 = t1 at *
      have d1 := px_byte f0 (by omega) 255 (by omega)
      have f1 := f0.num false 1 255
      generalize t1.num false 1 255 = t2 at *
      have d2 := px_num f1 (by omega) 2 65535
      have f2 := f1.num false 2 65535
      have u2 := nv_u16 (s := t2) (size := 2)
      generalize t2.num false 2 65535 = t3 at *
      have d3 := px_num f2 (by omega) 2 65535
      have f3 := f2.num false 2 65535
      have u3 := nv_u16 (s := t3) (size := 2)
      generalize t3.num false 2 65535 = t4 at *
      have d4 := px_num f3 (by omega) 1 15
      have f4 := f3.num false 1 15
      generalize t4.num false 1 15 = t5 at *
      have d5 := px_num f4 (by omega) 2 65535
      have f5 := f4.num false 2 65535
      have u5 := nv_u16 (s := t5) (size := 2)
      generalize t5.num false 2 65535 = t6 at *
      have d6 := px_txt f5 hB 32
      have f6 := f5.txt false 32
      generalize t6.txt false 32 = t7 at *
      generalize t.nv 4 2147483647 = v0 at *
      generalize t1.nv 1 255 = v1 at *
      generalize t2.nv 2 65535 = v2 at *
      generalize t3.nv 2 65535 = v3 at *
      generalize t4.nv 1 15 = v4 at *
      generalize t5.nv 2 65535 = v5 at *
      generalize t6.tv 32 = v6 at *
      have e7 : t7 = t' := congrArg Prod.snd hrd
      have em := congrArg Prod.fst hrd
      dsimp only at em
      subst e7
      clear hrd
      clear f0 f1 f2 f3 f4 f5
      by_cases he' : t7.e = 0
      · rw [if_neg (by simp [he'])] at hspec
        refine wpf_seq1 ?_
        conv => whnf
        repeat' ((first | refine brP_t (by assumption) ?_ | refine brP_f (by assumption) ?_ | refine brP_t (decide_eq_true (by omega)) ?_ | refine brP_f (decide_eq_false (by omega)) ?_ | refine brP_t (nd_t (by omega)) ?_ | refine brP_f (nd_f (by omega)) ?_ | refine callK_r (EvR.fr [_] d0 rfl rfl ⟨rfl, trivial⟩ rfl) ?_ | refine callM_l (LEv.fr [_] d0 rfl rfl ⟨rfl, trivial⟩ rfl rfl) ?_ | refine callK_rt (EvR.fr [_] d0 rfl rfl ⟨rfl, trivial⟩ rfl) ?_ | refine callK_rf rfl (EvR.fr [_] d0 rfl rfl ⟨rfl, trivial⟩ rfl) ?_ | refine callK_rft rfl (EvR.fr [_] d0 rfl rfl ⟨rfl, trivial⟩ rfl) ?_ | refine callK_r (EvR.fr [_] d1 rfl rfl ⟨rfl, trivial⟩ rfl) ?_ | refine callM_l (LEv.fr [_] d1 rfl rfl ⟨rfl, trivial⟩ rfl rfl) ?_ | refine callK_rt (EvR.fr [_] d1 rfl rfl ⟨rfl, trivial⟩ rfl) ?_ | refine callK_rf rfl (EvR.fr [_] d1 rfl rfl ⟨rfl, trivial⟩ rfl) ?_ | refine callK_rft rfl (EvR.fr [_] d1 rfl rfl ⟨rfl, trivial⟩ rfl) ?_ | refine callK_r (EvR.fr [_] d2 rfl rfl ⟨rfl, trivial⟩ rfl) ?_ | refine callM_l (LEv.fr [_] d2 rfl rfl ⟨rfl, trivial⟩ rfl rfl) ?_ | refine callK_rt (EvR.fr [_] d2 rfl rfl ⟨rfl, trivial⟩ rfl) ?_ | refine callK_rf rfl (EvR.fr [_] d2 rfl rfl ⟨rfl, trivial⟩ rfl) ?_ | refine callK_rft rfl (EvR.fr [_] d2 rfl rfl ⟨rfl, trivial⟩ rfl) ?_ | refine callK_r (EvR.fr [_] d3 rfl rfl ⟨rfl, trivial⟩ rfl) ?_ | refine callM_l (LEv.fr [_] d3 rfl rfl ⟨rfl, trivial⟩ rfl rfl) ?_ | refine callK_rt (EvR.fr [_] d3 rfl rfl ⟨rfl, trivial⟩ rfl) ?_ | refine callK_rf rfl (EvR.fr [_] d3 rfl rfl ⟨rfl, trivial⟩ rfl) ?_ | refine callK_rft rfl (EvR.fr [_] d3 rfl rfl ⟨rfl, trivial⟩ rfl) ?_ | refine callK_r (EvR.fr [_] d4 rfl rfl ⟨rfl, trivial⟩ rfl) ?_ | refine callM_l (LEv.fr [_] d4 rfl rfl ⟨rfl, trivial⟩ rfl rfl) ?_ | refine callK_rt (EvR.fr [_] d4 rfl rfl ⟨rfl, trivial⟩ rfl) ?_ | refine callK_rf rfl (EvR.fr [_] d4 rfl rfl ⟨rfl, trivial⟩ rfl) ?_ | refine callK_rft rfl (EvR.fr [_] d4 rfl rfl ⟨rfl, trivial⟩ rfl) ?_ | refine callK_r (EvR.fr [_] d5 rfl rfl ⟨rfl, trivial⟩ rfl) ?_ | refine callM_l (LEv.fr [_] d5 rfl rfl ⟨rfl, trivial⟩ rfl rfl) ?_ | refine callK_rt (EvR.fr [_] d5 rfl rfl ⟨rfl, trivial⟩ rfl) ?_ | refine callK_rf rfl (EvR.fr [_] d5 rfl rfl ⟨rfl, trivial⟩ rfl) ?_ | refine callK_rft rfl (EvR.fr [_] d5 rfl rfl ⟨rfl, trivial⟩ rfl) ?_ | refine callK_r (EvR.fr [_] d6 rfl rfl ⟨rfl, trivial⟩ rfl) ?_ | refine callM_l (LEv.fr [_] d6 rfl rfl ⟨rfl, trivial⟩ rfl rfl) ?_ | refine callK_rt (EvR.fr [_] d6 rfl rfl ⟨rfl, trivial⟩ rfl) ?_ | refine callK_rf rfl (EvR.fr [_] d6 rfl rfl ⟨rfl, trivial⟩ rfl) ?_ | refine callK_rft rfl (EvR.fr [_] d6 rfl rfl ⟨rfl, trivial⟩ rfl) ?_ | (refine gd_mk ?_ ?_; focus (simp [hml, hacc, putAt]; omega; done)) | refine wpfS_seq1 ?_ | refine wpfS_go ?_ | fail) <;> conv => whnf)
        rw [hw2, u2, u3, u5]
        refine ⟨(i + 1, acc ++ [m], t7, false), 1, ⟨hlt, by simp [hacc], f6, he', ?_⟩, (show 1 + n - (i + 1) < 1 + n - i by omega), ⟨rfl, rfl, rfl, rfl, trivial⟩, Nat.le_refl 1, ?_, rfl, rfl⟩
        · rw [hspec]; simp
        · show _ = (⟨t7.px B, [.arr 7 false (msgs (acc ++ [m]))]⟩ : Hp)
          rw [msgs_app, ← em]; rfl
      · rw [if_pos he'] at hspec
        refine wpf_seq1 ?_
        conv => whnf
        repeat' ((first | refine brP_t (by assumption) ?_ | refine brP_f (by assumption) ?_ | refine brP_t (decide_eq_true (by omega)) ?_ | refine brP_f (decide_eq_false (by omega)) ?_ | refine brP_t (nd_t (by omega)) ?_ | refine brP_f (nd_f (by omega)) ?_ | refine callK_r (EvR.fr [_] d0 rfl rfl ⟨rfl, trivial⟩ rfl) ?_ | refine callM_l (LEv.fr [_] d0 rfl rfl ⟨rfl, trivial⟩ rfl rfl) ?_ | refine callK_rt (EvR.fr [_] d0 rfl rfl ⟨rfl, trivial⟩ rfl) ?_ | refine callK_rf rfl (EvR.fr [_] d0 rfl rfl ⟨rfl, trivial⟩ rfl) ?_ | refine callK_rft rfl (EvR.fr [_] d0 rfl rfl ⟨rfl, trivial⟩ rfl) ?_ | refine callK_r (EvR.fr [_] d1 rfl rfl ⟨rfl, trivial⟩ rfl) ?_ | refine callM_l (LEv.fr [_] d1 rfl rfl ⟨rfl, trivial⟩ rfl rfl) ?_ | refine callK_rt (EvR.fr [_] d1 rfl rfl ⟨rfl, trivial⟩ rfl) ?_ | refine callK_rf rfl (EvR.fr [_] d1 rfl rfl ⟨rfl, trivial⟩ rfl) ?_ | refine callK_rft rfl (EvR.fr [_] d1 rfl rfl ⟨rfl, trivial⟩ rfl) ?_ | refine callK_r (EvR.fr [_] d2 rfl rfl ⟨rfl, trivial⟩ rfl) ?_ | refine callM_l (LEv.fr [_] d2 rfl rfl ⟨rfl, trivial⟩ rfl rfl) ?_ | refine callK_rt (EvR.fr [_] d2 rfl rfl ⟨rfl, trivial⟩ rfl) ?_ | refine callK_rf rfl (EvR.fr [_] d2 rfl rfl ⟨rfl, trivial⟩ rfl) ?_ | refine callK_rft rfl (EvR.fr [_] d2 rfl rfl ⟨rfl, trivial⟩ rfl) ?_ | refine callK_r (EvR.fr [_] d3 rfl rfl ⟨rfl, trivial⟩ rfl) ?_ | refine callM_l (LEv.fr [_] d3 rfl rfl ⟨rfl, trivial⟩ rfl rfl) ?_ | refine callK_rt (EvR.fr [_] d3 rfl rfl ⟨rfl, trivial⟩ rfl) ?_ | refine callK_rf rfl (EvR.fr [_] d3 rfl rfl ⟨rfl, trivial⟩ rfl) ?_ | refine callK_rft rfl (EvR.fr [_] d3 rfl rfl ⟨rfl, trivial⟩ rfl) ?_ | refine callK_r (EvR.fr [_] d4 rfl rfl ⟨rfl, trivial⟩ rfl) ?_ | refine callM_l (LEv.fr [_] d4 rfl rfl ⟨rfl, trivial⟩ rfl rfl) ?_ | refine callK_rt (EvR.fr [_] d4 rfl rfl ⟨rfl, trivial⟩ rfl) ?_ | refine callK_rf rfl (EvR.fr [_] d4 rfl rfl ⟨rfl, trivial⟩ rfl) ?_ | refine callK_rft rfl (EvR.fr [_] d4 rfl rfl ⟨rfl, trivial⟩ rfl) ?_ | refine callK_r (EvR.fr [_] d5 rfl rfl ⟨rfl, trivial⟩ rfl) ?_ | refine callM_l (LEv.fr [_] d5 rfl rfl ⟨rfl, trivial⟩ rfl rfl) ?_ | refine callK_rt (EvR.fr [_] d5 rfl rfl ⟨rfl, trivial⟩ rfl) ?_ | refine callK_rf rfl (EvR.fr [_] d5 rfl rfl ⟨rfl, trivial⟩ rfl) ?_ | refine callK_rft rfl (EvR.fr [_] d5 rfl rfl ⟨rfl, trivial⟩ rfl) ?_ | refine callK_r (EvR.fr [_] d6 rfl rfl ⟨rfl, trivial⟩ rfl) ?_ | refine callM_l (LEv.fr [_] d6 rfl rfl ⟨rfl, trivial⟩ rfl rfl) ?_ | refine callK_rt (EvR.fr [_] d6 rfl rfl ⟨rfl, trivial⟩ rfl) ?_ | refine callK_rf rfl (EvR.fr [_] d6 rfl rfl ⟨rfl, trivial⟩ rfl) ?_ | refine callK_rft rfl (EvR.fr [_] d6 rfl rfl ⟨rfl, trivial⟩ rfl) ?_ | (refine gd_mk ?_ ?_; focus (simp [hml, hacc, putAt]; omega; done)) | refine wpfS_seq1 ?_ | refine wpfS_go ?_ | fail) <;> conv => whnf)
        rw [hw2, u2, u3, u5]
        refine ⟨(i + 1, acc ++ [m], t7, true), 1, ⟨hlt, by simp [hacc], f6, he', by rw [hspec]⟩, (show 0 < 1 + n - i by omega), ⟨rfl, rfl, rfl, rfl, trivial⟩, Nat.le_refl 1, ?_, rfl, rfl⟩
        show _ = (⟨t7.px B, [.arr 7 false (msgs (acc ++ [m]))]⟩ : Hp)
        rw [msgs_app, ← em]; rfl
    · have hin : i = n := by omega
      subst hin
      have e1 : Msg.rds false (i - i) t = ([], t) := by rw [Nat.sub_self]; rfl
      rw [e1] at hspec
      rw [hspec, if_neg (by simp [ht])]
      refine wpf_seq1 ?_
      conv => whnf
      repeat' ((first | refine brP_t (by assumption) ?_ | refine brP_f (by assumption) ?_ | refine brP_t (decide_eq_true (by omega)) ?_ | refine brP_f (decide_eq_false (by omega)) ?_ | refine brP_t (nd_t (by omega)) ?_ | refine brP_f (nd_f (by omega)) ?_ | (refine gd_mk ?_ ?_; focus (simp [hml, hacc]; done)) | refine wpfS_seq1 ?_ | refine wpfS_go ?_ | fail) <;> conv => whnf)
      rw [List.append_nil]
      exact ⟨rfl, rfl⟩
end Go.Ab.S
