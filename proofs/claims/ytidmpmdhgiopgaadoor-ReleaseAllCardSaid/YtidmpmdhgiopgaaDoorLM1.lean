/- Part of a proof; no condition. -/
import Derived.Test.YtidmpmdhgiopgaaDoorLN3
import Derived.Test.YtidmpmdhgiopgaaDoorLWZ
set_option linter.unusedSimpArgs false
set_option linter.unusedVariables false
namespace Go.Ab.S
open Go Go.Ab Go.Proofs
attribute [local irreducible] SemS
set_option maxRecDepth 100000
def topI : Int := 2147483647
def Msg.fine (m : Msg) : Bool := decide (0 ≤ m.no) && (decide (m.no ≤ 2147483647) && (decide (0 ≤ m.ep) && (decide (m.ep ≤ 255) && (decide (0 ≤ m.role) && (decide (m.role ≤ 15) && decide (m.data.length ≤ 32))))))
theorem Msg.fine_iff {m : Msg} : m.fine = true ↔ 0 ≤ m.no ∧ m.no ≤ 2147483647 ∧ 0 ≤ m.ep ∧ m.ep ≤ 255 ∧ 0 ≤ m.role ∧ m.role ≤ 15 ∧ m.data.length ≤ 32 := by simp [Msg.fine]
theorem message_Fine_1_ok (n most : Int) : EvP PR G f_message_Fine_1 [iv n, iv most] (bv (decide (0 ≤ n) && decide (n ≤ most))) := by
  refine EvP.of_wpf true hm c_message_Fine_1 rfl ?_
  conv => whnf
  by_cases h : 0 ≤ n
  · rw [decide_eq_true h]
    repeat' ((first | refine brP_t (by assumption) ?_ | refine brP_f (by assumption) ?_ | refine brP_t (decide_eq_true (by omega)) ?_ | refine brP_f (decide_eq_false (by omega)) ?_ | refine brP_t (nd_t (by omega)) ?_ | refine brP_f (nd_f (by omega)) ?_ | fail) <;> conv => whnf)
    rfl
  · rw [decide_eq_false h]
    repeat' ((first | refine brP_t (by assumption) ?_ | refine brP_f (by assumption) ?_ | refine brP_t (decide_eq_true (by omega)) ?_ | refine brP_f (decide_eq_false (by omega)) ?_ | refine brP_t (nd_t (by omega)) ?_ | refine brP_f (nd_f (by omega)) ?_ | fail) <;> conv => whnf)
    rfl
theorem message_Fine_ok (m : Msg) : EvP PR G f_message_Fine [.agg m.row] (bv m.fine) := by
  have h1 := message_Fine_1_ok m.no 2147483647
  have h2 := message_Fine_1_ok m.ep 255
  have h3 := message_Fine_1_ok m.role 15
  have e : m.fine = (((decide (0 ≤ m.no) && decide (m.no ≤ 2147483647)) && ((decide (0 ≤ m.ep) && decide (m.ep ≤ 255)) && ((decide (0 ≤ m.role) && decide (m.role ≤ 15)) && decide (m.data.length ≤ 32))))) := by
    unfold Msg.fine
    simp only [Bool.and_assoc]
  rw [e]
  generalize (decide (0 ≤ m.no) && decide (m.no ≤ 2147483647)) = b1 at *
  generalize (decide (0 ≤ m.ep) && decide (m.ep ≤ 255)) = b2 at *
  generalize (decide (0 ≤ m.role) && decide (m.role ≤ 15)) = b3 at *
  refine EvP.of_wpf true hm c_message_Fine rfl ?_
  conv => whnf
  cases b1
  · repeat' ((first | refine brP_t (by assumption) ?_ | refine brP_f (by assumption) ?_ | refine brP_t (decide_eq_true (by omega)) ?_ | refine brP_f (decide_eq_false (by omega)) ?_ | refine brP_t (nd_t (by omega)) ?_ | refine brP_f (nd_f (by omega)) ?_ | refine callK_pf rfl h1 ?_ | refine callK_p h1 ?_ | refine callM_p h1 rfl ?_ | refine callK_pf rfl h1 ?_ | fail) <;> conv => whnf)
    rfl
  cases b2
  · repeat' ((first | refine brP_t (by assumption) ?_ | refine brP_f (by assumption) ?_ | refine brP_t (decide_eq_true (by omega)) ?_ | refine brP_f (decide_eq_false (by omega)) ?_ | refine brP_t (nd_t (by omega)) ?_ | refine brP_f (nd_f (by omega)) ?_ | refine callK_pf rfl h1 ?_ | refine callK_pf rfl h2 ?_ | fail) <;> conv => whnf)
    rfl
  cases b3
  · repeat' ((first | refine brP_t (by assumption) ?_ | refine brP_f (by assumption) ?_ | refine brP_t (decide_eq_true (by omega)) ?_ | refine brP_f (decide_eq_false (by omega)) ?_ | refine brP_t (nd_t (by omega)) ?_ | refine brP_f (nd_f (by omega)) ?_ | refine callK_pf rfl h1 ?_ | refine callK_pf rfl h2 ?_ | refine callK_pf rfl h3 ?_ | fail) <;> conv => whnf)
    rfl
  repeat' ((first | refine brP_t (by assumption) ?_ | refine brP_f (by assumption) ?_ | refine brP_t (decide_eq_true (by omega)) ?_ | refine brP_f (decide_eq_false (by omega)) ?_ | refine brP_t (nd_t (by omega)) ?_ | refine brP_f (nd_f (by omega)) ?_ | refine callK_pf rfl h1 ?_ | refine callK_pf rfl h2 ?_ | refine callK_pf rfl h3 ?_ | fail) <;> conv => whnf)
  exact congrArg bv (decide_eq_decide.2 (by omega))
theorem R22_Fine_ok (m : Msg) : EvP PR G f_R22_Fine [.agg m.row] (bv m.fine) := by
  refine EvP.of_wpf true hm c_R22_Fine rfl ?_
  conv => whnf
  cases hf : m.fine with
  | true =>
    obtain ⟨h1, h2, h3, h4, h5, h6, h7⟩ := Msg.fine_iff.1 hf
    repeat' ((first | refine brP_t (by assumption) ?_ | refine brP_f (by assumption) ?_ | refine brP_t (decide_eq_true (by omega)) ?_ | refine brP_f (decide_eq_false (by omega)) ?_ | refine brP_t (nd_t (by omega)) ?_ | refine brP_f (nd_f (by omega)) ?_ | fail) <;> conv => whnf)
    exact congrArg bv (decide_eq_true (by omega))
  | false =>
    by_cases h1 : 0 ≤ m.no
    · by_cases h2 : m.no ≤ 2147483647
      · by_cases h3 : 0 ≤ m.ep
        · by_cases h4 : m.ep ≤ 255
          · by_cases h5 : 0 ≤ m.role
            · by_cases h6 : m.role ≤ 15
              · have h7 : ¬ m.data.length ≤ 32 := fun h7 => by
                  have := Msg.fine_iff.2 ⟨h1, h2, h3, h4, h5, h6, h7⟩
                  rw [hf] at this; cases this
                repeat' ((first | refine brP_t (by assumption) ?_ | refine brP_f (by assumption) ?_ | refine brP_t (decide_eq_true (by omega)) ?_ | refine brP_f (decide_eq_false (by omega)) ?_ | refine brP_t (nd_t (by omega)) ?_ | refine brP_f (nd_f (by omega)) ?_ | fail) <;> conv => whnf)
                exact congrArg bv (decide_eq_false (by omega))
              · repeat' ((first | refine brP_t (by assumption) ?_ | refine brP_f (by assumption) ?_ | refine brP_t (decide_eq_true (by omega)) ?_ | refine brP_f (decide_eq_false (by omega)) ?_ | refine brP_t (nd_t (by omega)) ?_ | refine brP_f (nd_f (by omega)) ?_ | fail) <;> conv => whnf)
                rfl
            · repeat' ((first | refine brP_t (by assumption) ?_ | refine brP_f (by assumption) ?_ | refine brP_t (decide_eq_true (by omega)) ?_ | refine brP_f (decide_eq_false (by omega)) ?_ | refine brP_t (nd_t (by omega)) ?_ | refine brP_f (nd_f (by omega)) ?_ | fail) <;> conv => whnf)
              rfl
          · repeat' ((first | refine brP_t (by assumption) ?_ | refine brP_f (by assumption) ?_ | refine brP_t (decide_eq_true (by omega)) ?_ | refine brP_f (decide_eq_false (by omega)) ?_ | refine brP_t (nd_t (by omega)) ?_ | refine brP_f (nd_f (by omega)) ?_ | fail) <;> conv => whnf)
            rfl
        · repeat' ((first | refine brP_t (by assumption) ?_ | refine brP_f (by assumption) ?_ | refine brP_t (decide_eq_true (by omega)) ?_ | refine brP_f (decide_eq_false (by omega)) ?_ | refine brP_t (nd_t (by omega)) ?_ | refine brP_f (nd_f (by omega)) ?_ | fail) <;> conv => whnf)
          rfl
      · repeat' ((first | refine brP_t (by assumption) ?_ | refine brP_f (by assumption) ?_ | refine brP_t (decide_eq_true (by omega)) ?_ | refine brP_f (decide_eq_false (by omega)) ?_ | refine brP_t (nd_t (by omega)) ?_ | refine brP_f (nd_f (by omega)) ?_ | fail) <;> conv => whnf)
        rfl
    · repeat' ((first | refine brP_t (by assumption) ?_ | refine brP_f (by assumption) ?_ | refine brP_t (decide_eq_true (by omega)) ?_ | refine brP_f (decide_eq_false (by omega)) ?_ | refine brP_t (nd_t (by omega)) ?_ | refine brP_f (nd_f (by omega)) ?_ | fail) <;> conv => whnf)
      rfl
def Msg.map (M : Nat → Nat) (m : Msg) : Msg := { m with s := setN M m.s, i := setN M m.i, used := setN M m.used }
theorem message_Mapped_ok (M : Nat → Nat) (hM : ∀ i, i < 16 → M i ≤ 255) (m : Msg) (hm' : m.Ok) : EvP PR G f_message_Mapped [mv M, .agg m.row] (.agg (m.map M).row) := by
  have h1 := relabel_Label_ok M hM m.s m.i hm'.s hm'.i
  have h2 := relabel_Set_ok M hM m.used hm'.used
  refine EvP.of_wpf true hm c_message_Mapped rfl ?_
  conv => whnf
  repeat' ((first | refine brP_t (by assumption) ?_ | refine brP_f (by assumption) ?_ | refine brP_t (decide_eq_true (by omega)) ?_ | refine brP_f (decide_eq_false (by omega)) ?_ | refine brP_t (nd_t (by omega)) ?_ | refine brP_f (nd_f (by omega)) ?_ | refine callK_p h1 ?_ | refine callM_p h1 rfl ?_ | refine callK_pf rfl h1 ?_ | refine callK_p h2 ?_ | refine callM_p h2 rfl ?_ | refine callK_pf rfl h2 ?_ | fail) <;> conv => whnf)
  rfl
theorem Msg.map_ok {M : Nat → Nat} {m : Msg} (h : m.Ok) : (m.map M).Ok := ⟨h.no, h.ep, setN_lt, setN_lt, h.role, setN_lt⟩
/-- Are two messages equal, cell by cell? -/
theorem msg_eq (a b : Msg) : (decide (a.no = b.no) && (decide (a.ep = b.ep) && (decide ((a.s : Int) = (b.s : Int)) && (decide ((a.i : Int) = (b.i : Int)) && (decide (a.role = b.role) && (decide ((a.used : Int) = (b.used : Int)) && (decide (a.data = b.data) && true))))))) = decide (a = b) := by
  obtain ⟨a1, a2, a3, a4, a5, a6, a7⟩ := a
  obtain ⟨b1, b2, b3, b4, b5, b6, b7⟩ := b
  rw [Bool.eq_iff_iff]
  simp only [Bool.and_true, Bool.and_eq_true, decide_eq_true_eq, Msg.mk.injEq]
  constructor
  · rintro ⟨h1, h2, h3, h4, h5, h6, h7⟩
    exact ⟨h1, h2, by omega, by omega, h5, by omega, h7⟩
  · rintro ⟨h1, h2, h3, h4, h5, h6, h7⟩
    exact ⟨h1, h2, by omega, by omega, h5, by omega, h7⟩
theorem take_eq_of {a b : List Msg} {i : Nat} (ha : i < a.length) (hb : i < b.length) (h : a.take i = b.take i) (he : a[i] = b[i]) : a.take (i + 1) = b.take (i + 1) := by
  rw [List.take_succ_eq_append_getElem ha, List.take_succ_eq_append_getElem hb, h, he]
theorem Equal_msg_ok (a b : List Msg) (hl : a.length < 2 ^ 63) : EvP PR G f_slices_Equal_api_Message [slv (msgs a), slv (msgs b)] (bv (decide (a = b))) := by
  have la := msgs_len (l := a)
  have lb := msgs_len (l := b)
  refine EvP.of_wpf false hm c_slices_Equal_api_Message rfl ?_
  refine wpf_seq1 ?_
  conv => whnf
  by_cases hlen : a.length = b.length
  case neg =>
    have e : decide (a = b) = false := decide_eq_false fun h => hlen (by rw [h])
    rw [e]
    repeat' ((first | refine brP_t (by assumption) ?_ | refine brP_f (by assumption) ?_ | refine brP_t (decide_eq_true (by omega)) ?_ | refine brP_f (decide_eq_false (by omega)) ?_ | refine brP_t (nd_t (by omega)) ?_ | refine brP_f (nd_f (by omega)) ?_ | refine wpfS_seq1 ?_ | refine wpfS_go ?_ | fail) <;> conv => whnf)
    rfl
  repeat' ((first | refine brP_t (by assumption) ?_ | refine brP_f (by assumption) ?_ | refine brP_t (decide_eq_true (by omega)) ?_ | refine brP_f (decide_eq_false (by omega)) ?_ | refine brP_t (nd_t (by omega)) ?_ | refine brP_f (nd_f (by omega)) ?_ | refine wpfS_seq1 ?_ | refine wpfS_go ?_ | fail) <;> conv => whnf)
  refine SemS.loopF false hm (σ := Nat) (fun i => [(13, iv i), (12, iv a.length), (0, slv (msgs a)), (1, slv (msgs b))]) (fun _ => ⟨[], []⟩) (fun i => a.length - i) (fun i => i ≤ a.length ∧ a.take i = b.take i) 0 ⟨Nat.zero_le _, rfl⟩ ⟨rfl, by rw [la]; rfl, rfl, rfl, trivial⟩ rfl ?_
  rintro i ⟨hi, hpre⟩
  refine wpf_seq1 ?_
  conv => whnf
  refine wpfS_seq1 ?_
  conv => whnf
  refine brP_mk (fun h => ?_) (fun h => ?_)
  · have hia : i < a.length := by have := of_decide_eq_true h; omega
    have hib : i < b.length := by omega
    clear h
    have ga := msgs_get hia
    have gb := msgs_get hib
    have hw2 : IntKind.i64.wrap ((i : Int) + 1) = ((i + 1 : Nat) : Int) := by rw [wrap64 (by omega)]; rfl
    have hme := msg_eq a[i] b[i]
    by_cases he : a[i] = b[i]
    · have hn := take_eq_of hia hib hpre he
      rw [decide_eq_true he] at hme
      generalize a[i] = x at *
      generalize b[i] = y at *
      repeat' ((first | refine brP_t (by assumption) ?_ | refine brP_f (by assumption) ?_ | refine brP_t (decide_eq_true (by omega)) ?_ | refine brP_f (decide_eq_false (by omega)) ?_ | refine brP_t (nd_t (by omega)) ?_ | refine brP_f (nd_f (by omega)) ?_ | ((conv in (opS _ _ _ _) => whnf); rw [Int.toNat_natCast, ga]) | ((conv in (opM _ _ _ _ _) => whnf); (conv in (opS _ _ _ _) => whnf); rw [Int.toNat_natCast, ga]) | ((conv in (opS _ _ _ _) => whnf); rw [Int.toNat_natCast, gb]) | ((conv in (opM _ _ _ _ _) => whnf); (conv in (opS _ _ _ _) => whnf); rw [Int.toNat_natCast, gb]) | ((rw [hme])) | refine wpfS_seq1 ?_ | refine wpfS_go ?_ | fail) <;> conv => whnf)
      rw [hw2]
      exact ⟨i + 1, ⟨hia, hn⟩, (show a.length - (i + 1) < a.length - i by omega), ⟨rfl, rfl, rfl, rfl, trivial⟩, rfl⟩
    · have e : decide (a = b) = false := decide_eq_false fun h => he (by subst h; rfl)
      rw [decide_eq_false he] at hme
      rw [e]
      generalize a[i] = x at *
      generalize b[i] = y at *
      repeat' ((first | refine brP_t (by assumption) ?_ | refine brP_f (by assumption) ?_ | refine brP_t (decide_eq_true (by omega)) ?_ | refine brP_f (decide_eq_false (by omega)) ?_ | refine brP_t (nd_t (by omega)) ?_ | refine brP_f (nd_f (by omega)) ?_ | ((conv in (opS _ _ _ _) => whnf); rw [Int.toNat_natCast, ga]) | ((conv in (opM _ _ _ _ _) => whnf); (conv in (opS _ _ _ _) => whnf); rw [Int.toNat_natCast, ga]) | ((conv in (opS _ _ _ _) => whnf); rw [Int.toNat_natCast, gb]) | ((conv in (opM _ _ _ _ _) => whnf); (conv in (opS _ _ _ _) => whnf); rw [Int.toNat_natCast, gb]) | ((rw [hme])) | refine wpfS_seq1 ?_ | refine wpfS_go ?_ | fail) <;> conv => whnf)
      rfl
  · have hia : i = a.length := by have := of_decide_eq_false h; omega
    subst hia
    clear h
    rw [List.take_length, hlen, List.take_length] at hpre
    rw [decide_eq_true hpre]
    conv => whnf
    repeat' ((first | refine brP_t (by assumption) ?_ | refine brP_f (by assumption) ?_ | refine brP_t (decide_eq_true (by omega)) ?_ | refine brP_f (decide_eq_false (by omega)) ?_ | refine brP_t (nd_t (by omega)) ?_ | refine brP_f (nd_f (by omega)) ?_ | refine wpfS_seq1 ?_ | refine wpfS_go ?_ | fail) <;> conv => whnf)
    rfl
theorem message_Same_ok (a b : List Msg) (hl : a.length < 2 ^ 63) : EvP PR G f_message_Same [slv (msgs a), slv (msgs b)] (bv (decide (a = b))) := by
  have h := Equal_msg_ok a b hl
  refine EvP.of_wpf false hm c_message_Same rfl ?_
  conv => whnf
  repeat' ((first | refine brP_t (by assumption) ?_ | refine brP_f (by assumption) ?_ | refine brP_t (decide_eq_true (by omega)) ?_ | refine brP_f (decide_eq_false (by omega)) ?_ | refine brP_t (nd_t (by omega)) ?_ | refine brP_f (nd_f (by omega)) ?_ | refine callK_p h ?_ | refine callM_p h rfl ?_ | refine callK_pf rfl h ?_ | refine wpfS_seq1 ?_ | refine wpfS_go ?_ | fail) <;> conv => whnf)
  rfl
theorem R22_Same_ok (a b : List Msg) (hl : a.length < 2 ^ 63) : EvP PR G f_R22_Same [slv (msgs a), slv (msgs b)] (bv (decide (a = b))) := by
  have la := msgs_len (l := a)
  have lb := msgs_len (l := b)
  refine EvP.of_wpf false hm c_R22_Same rfl ?_
  refine wpf_seq1 ?_
  conv => whnf
  by_cases hlen : a.length = b.length
  case neg =>
    have e : decide (a = b) = false := decide_eq_false fun h => hlen (by rw [h])
    rw [e]
    repeat' ((first | refine brP_t (by assumption) ?_ | refine brP_f (by assumption) ?_ | refine brP_t (decide_eq_true (by omega)) ?_ | refine brP_f (decide_eq_false (by omega)) ?_ | refine brP_t (nd_t (by omega)) ?_ | refine brP_f (nd_f (by omega)) ?_ | refine wpfS_seq1 ?_ | refine wpfS_go ?_ | fail) <;> conv => whnf)
    rfl
  repeat' ((first | refine brP_t (by assumption) ?_ | refine brP_f (by assumption) ?_ | refine brP_t (decide_eq_true (by omega)) ?_ | refine brP_f (decide_eq_false (by omega)) ?_ | refine brP_t (nd_t (by omega)) ?_ | refine brP_f (nd_f (by omega)) ?_ | refine wpfS_seq1 ?_ | refine wpfS_go ?_ | fail) <;> conv => whnf)
  refine SemS.loopF false hm (σ := Nat) (fun i => [(5, iv i), (0, slv (msgs a)), (1, slv (msgs b))]) (fun _ => ⟨[], []⟩) (fun i => a.length - i) (fun i => i ≤ a.length ∧ a.take i = b.take i) 0 ⟨Nat.zero_le _, rfl⟩ ⟨rfl, rfl, rfl, trivial⟩ rfl ?_
  rintro i ⟨hi, hpre⟩
  refine wpf_seq1 ?_
  conv => whnf
  rw [la]
  refine brP_mk (fun h => ?_) (fun h => ?_)
  · have hia : i < a.length := by have := of_decide_eq_true h; omega
    have hib : i < b.length := by omega
    clear h
    have ga := msgs_get hia
    have gb := msgs_get hib
    have hw2 : IntKind.i64.wrap ((i : Int) + 1) = ((i + 1 : Nat) : Int) := by rw [wrap64 (by omega)]; rfl
    have hme := msg_eq a[i] b[i]
    by_cases he : a[i] = b[i]
    · have hn := take_eq_of hia hib hpre he
      rw [decide_eq_true he] at hme
      generalize a[i] = x at *
      generalize b[i] = y at *
      repeat' ((first | refine brP_t (by assumption) ?_ | refine brP_f (by assumption) ?_ | refine brP_t (decide_eq_true (by omega)) ?_ | refine brP_f (decide_eq_false (by omega)) ?_ | refine brP_t (nd_t (by omega)) ?_ | refine brP_f (nd_f (by omega)) ?_ | ((conv in (opS _ _ _ _) => whnf); rw [Int.toNat_natCast, ga]) | ((conv in (opM _ _ _ _ _) => whnf); (conv in (opS _ _ _ _) => whnf); rw [Int.toNat_natCast, ga]) | ((conv in (opS _ _ _ _) => whnf); rw [Int.toNat_natCast, gb]) | ((conv in (opM _ _ _ _ _) => whnf); (conv in (opS _ _ _ _) => whnf); rw [Int.toNat_natCast, gb]) | ((rw [hme])) | refine wpfS_seq1 ?_ | refine wpfS_go ?_ | fail) <;> conv => whnf)
      rw [hw2]
      exact ⟨i + 1, ⟨hia, hn⟩, (show a.length - (i + 1) < a.length - i by omega), ⟨rfl, rfl, rfl, trivial⟩, rfl⟩
    · have e : decide (a = b) = false := decide_eq_false fun h => he (by subst h; rfl)
      rw [decide_eq_false he] at hme
      rw [e]
      generalize a[i] = x at *
      generalize b[i] = y at *
      repeat' ((first | refine brP_t (by assumption) ?_ | refine brP_f (by assumption) ?_ | refine brP_t (decide_eq_true (by omega)) ?_ | refine brP_f (decide_eq_false (by omega)) ?_ | refine brP_t (nd_t (by omega)) ?_ | refine brP_f (nd_f (by omega)) ?_ | ((conv in (opS _ _ _ _) => whnf); rw [Int.toNat_natCast, ga]) | ((conv in (opM _ _ _ _ _) => whnf); (conv in (opS _ _ _ _) => whnf); rw [Int.toNat_natCast, ga]) | ((conv in (opS _ _ _ _) => whnf); rw [Int.toNat_natCast, gb]) | ((conv in (opM _ _ _ _ _) => whnf); (conv in (opS _ _ _ _) => whnf); rw [Int.toNat_natCast, gb]) | ((rw [hme])) | refine wpfS_seq1 ?_ | refine wpfS_go ?_ | fail) <;> conv => whnf)
      rfl
  · have hia : i = a.length := by have := of_decide_eq_false h; omega
    subst hia
    clear h
    rw [List.take_length, hlen, List.take_length] at hpre
    rw [decide_eq_true hpre]
    conv => whnf
    repeat' ((first | refine brP_t (by assumption) ?_ | refine brP_f (by assumption) ?_ | refine brP_t (decide_eq_true (by omega)) ?_ | refine brP_f (decide_eq_false (by omega)) ?_ | refine brP_t (nd_t (by omega)) ?_ | refine brP_f (nd_f (by omega)) ?_ | refine wpfS_seq1 ?_ | refine wpfS_go ?_ | fail) <;> conv => whnf)
    rfl
end Go.Ab.S
