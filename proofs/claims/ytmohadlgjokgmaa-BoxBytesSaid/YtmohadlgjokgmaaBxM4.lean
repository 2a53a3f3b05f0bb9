/- Part of a proof; no condition. -/
import Derived.Test.YtmohadlgjokgmaaBxM3
set_option linter.unusedSimpArgs false
set_option linter.unusedVariables false
namespace Go.Ab.S
open Go Go.Ab Go.Proofs
attribute [local irreducible] SemS
set_option maxRecDepth 100000
/-- A message's bytes. -/
def Msg.bytes (m : Msg) : List UInt8 := numB m.no.toNat 4 ++ (numB m.ep.toNat 1 ++ (numB m.s 2 ++ (numB m.i 2 ++ (numB m.role.toNat 1 ++ (numB m.used 2 ++ textB m.data)))))
def msgsB (l : List Msg) : List UInt8 := numB l.length 1 ++ l.flatMap Msg.bytes
theorem Msg.bytes_len {m : Msg} (h : m.data.length ≤ 32) : m.bytes.length ≤ 45 := by
  unfold Msg.bytes textB
  simp only [List.length_append, numB_len, List.length_cons]
  omega
theorem flat_len : ∀ {l : List Msg}, (∀ m ∈ l, m.data.length ≤ 32) → (l.flatMap Msg.bytes).length ≤ 45 * l.length
  | [], _ => by simp
  | m :: l, h => by
    have h1 := flat_len (l := l) fun q hq => h q (List.mem_cons_of_mem _ hq)
    have h2 := Msg.bytes_len (h m List.mem_cons_self)
    rw [List.flatMap_cons, List.length_append, List.length_cons]
    omega
theorem flat_take {l : List Msg} {i : Nat} (h : i < l.length) : (l.take (i + 1)).flatMap Msg.bytes = (l.take i).flatMap Msg.bytes ++ l[i].bytes := by
  rw [List.take_succ_eq_append_getElem h, List.flatMap_append]; simp
/-- The bytes of what is written one behind the other. -/
def run7 (bs : List UInt8) (m : Msg) : List UInt8 := bs ++ numB m.no.toNat 4 ++ numB m.ep.toNat 1 ++ numB m.s 2 ++ numB m.i 2 ++ numB m.role.toNat 1 ++ numB m.used 2 ++ textB m.data
theorem run7_eq (bs : List UInt8) (m : Msg) : run7 bs m = bs ++ m.bytes := by
  unfold run7 Msg.bytes
  simp only [List.append_assoc]
set_option maxHeartbeats 1000000 in
theorem message_Write_ok (e : Int) (bs : List UInt8) (hb : bs.length ≤ 2 ^ 39) (l : List Msg) (hl : l.length ≤ 255) (hok : ∀ m ∈ l, m.Ok ∧ m.fine = true) : EvR PR G f_message_Write [.c (.ptr (.par 0) 0), slv (msgs l)] ⟨wrB e bs, []⟩ (.tup []) ⟨wrB e (bs ++ msgsB l), []⟩ := by
  have hml := msgs_len (l := l)
  have c0 := w_num_ok e bs (by omega) l.length 1 (okNum_of (by omega) (by omega))
  refine EvR.of_wpfC false false hm c_message_Write rfl rfl ?_
  refine wpf_seq1 ?_
  conv => whnf
  repeat' ((first | refine brP_t (by assumption) ?_ | refine brP_f (by assumption) ?_ | refine brP_t (decide_eq_true (by omega)) ?_ | refine brP_f (decide_eq_false (by omega)) ?_ | refine brP_t (nd_t (by omega)) ?_ | refine brP_f (nd_f (by omega)) ?_ | ((rw [hml])) | refine callK_r (EvR.fr [_, _] c0 rfl rfl ⟨rfl, rfl, trivial⟩ rfl) ?_ | refine callM_l (LEv.fr [_, _] c0 rfl rfl ⟨rfl, rfl, trivial⟩ rfl rfl) ?_ | refine callK_rt (EvR.fr [_, _] c0 rfl rfl ⟨rfl, rfl, trivial⟩ rfl) ?_ | refine callK_rf rfl (EvR.fr [_, _] c0 rfl rfl ⟨rfl, rfl, trivial⟩ rfl) ?_ | refine callK_rft rfl (EvR.fr [_, _] c0 rfl rfl ⟨rfl, rfl, trivial⟩ rfl) ?_ | refine wpfS_seq1 ?_ | refine wpfS_go ?_ | fail) <;> conv => whnf)
  refine SemS.loopC false hm (σ := Nat) (fun i => [(12, iv i), (11, iv l.length), (10, slv (msgs l)), (0, .c (.ptr (.par 0) 0))]) (fun i => ⟨wrB e (bs ++ numB l.length 1 ++ (l.take i).flatMap Msg.bytes), []⟩) (fun i => l.length - i) (fun i => i ≤ l.length) 0 (Nat.zero_le _) ⟨rfl, rfl, rfl, rfl, trivial⟩ (by show _ = (⟨wrB e (bs ++ numB l.length 1 ++ []), []⟩ : Hp); rw [List.append_nil]; rfl) ?_
  intro i hi
  refine wpf_seq1 ?_
  conv => whnf
  refine wpfS_seq1 ?_
  conv => whnf
  refine brP_mk (fun h => ?_) (fun h => ?_)
  · have hi' : i < l.length := by have := of_decide_eq_true h; omega
    clear h
    have hget := msgs_get hi'
    have hw2 : IntKind.i64.wrap ((i : Int) + 1) = ((i + 1 : Nat) : Int) := by rw [wrap64 (by omega)]; rfl
    obtain ⟨hmo, hmf⟩ := hok l[i] (List.getElem_mem hi')
    have hft := flat_take hi'
    have hfl := flat_len (l := l.take i) fun m hm => (Msg.fine_iff.1 (hok m (List.mem_of_mem_take hm)).2).2.2.2.2.2.2
    have htl : (l.take i).length = i := by rw [List.length_take]; omega
    have hbl : (bs ++ numB l.length 1 ++ (l.take i).flatMap Msg.bytes).length ≤ 2 ^ 39 + 20000 := by
      simp only [List.length_append, numB_len]
      omega
    have hfin : bs ++ numB l.length 1 ++ (l.take (i + 1)).flatMap Msg.bytes = run7 (bs ++ numB l.length 1 ++ (l.take i).flatMap Msg.bytes) l[i] := by rw [run7_eq, hft, ← List.append_assoc]
    generalize hb0 : bs ++ numB l.length 1 ++ (l.take i).flatMap Msg.bytes = b0 at *
    generalize hb1 : bs ++ numB l.length 1 ++ (l.take (i + 1)).flatMap Msg.bytes = b1 at *
    generalize l[i] = m at *
    obtain ⟨no, ep, s, i', role, used, data⟩ := m
    obtain ⟨q1, q2, q3, q4, q5, q6, q7⟩ := Msg.fine_iff.1 hmf
    obtain ⟨p1, p2, p3, p4, p5, p6⟩ := hmo
    dsimp only at q1 q2 q3 q4 q5 q6 q7 p1 p2 p3 p4 p5 p6
    obtain ⟨no, rfl⟩ := Int.eq_ofNat_of_zero_le q1
    obtain ⟨ep, rfl⟩ := Int.eq_ofNat_of_zero_le q3
    obtain ⟨role, rfl⟩ := Int.eq_ofNat_of_zero_le q5
    have hget : (msgs l)[i]? = some [.int .i64 no, .int .i64 ep, .int .u16 s, .int .u16 i', .int .i64 role, .int .u16 used, .str data] := hget
    unfold run7 at hfin
    dsimp only [Int.toNat_natCast] at hfin
    have d1 := w_num_ok e b0 (by omega) no 4 (okNum_of (by omega) (by omega))
    have n1 : (b0 ++ numB no 4).length ≤ 2 ^ 39 + 20100 := by rw [List.length_append, numB_len]; omega
    generalize b0 ++ numB no 4 = x1 at *
    have d2 := w_num_ok e x1 (by omega) ep 1 (okNum_of (by omega) (by omega))
    have n2 : (x1 ++ numB ep 1).length ≤ 2 ^ 39 + 20200 := by rw [List.length_append, numB_len]; omega
    generalize x1 ++ numB ep 1 = x2 at *
    have d3 := w_num_ok e x2 (by omega) s 2 (okNum_of (by omega) (by omega))
    have n3 : (x2 ++ numB s 2).length ≤ 2 ^ 39 + 20300 := by rw [List.length_append, numB_len]; omega
    generalize x2 ++ numB s 2 = x3 at *
    have d4 := w_num_ok e x3 (by omega) i' 2 (okNum_of (by omega) (by omega))
    have n4 : (x3 ++ numB i' 2).length ≤ 2 ^ 39 + 20400 := by rw [List.length_append, numB_len]; omega
    generalize x3 ++ numB i' 2 = x4 at *
    have d5 := w_num_ok e x4 (by omega) role 1 (okNum_of (by omega) (by omega))
    have n5 : (x4 ++ numB role 1).length ≤ 2 ^ 39 + 20500 := by rw [List.length_append, numB_len]; omega
    generalize x4 ++ numB role 1 = x5 at *
    have d6 := w_num_ok e x5 (by omega) used 2 (okNum_of (by omega) (by omega))
    have n6 : (x5 ++ numB used 2).length ≤ 2 ^ 39 + 20600 := by rw [List.length_append, numB_len]; omega
    generalize x5 ++ numB used 2 = x6 at *
    have d7 := w_text_ok e x6 (by omega) data (by omega)
    generalize x6 ++ textB data = x7 at *
    have z1 : IntKind.i64.wrap (s : Int) = s := wrap64 (by omega)
    have z2 : IntKind.i64.wrap (i' : Int) = i' := wrap64 (by omega)
    have z3 : IntKind.i64.wrap (used : Int) = used := wrap64 (by omega)
    subst hfin
    clear hmf hft hfl htl hbl n1 n2 n3 n4 n5 n6
    repeat' ((first | refine brP_t (by assumption) ?_ | refine brP_f (by assumption) ?_ | refine brP_t (decide_eq_true (by omega)) ?_ | refine brP_f (decide_eq_false (by omega)) ?_ | refine brP_t (nd_t (by omega)) ?_ | refine brP_f (nd_f (by omega)) ?_ | ((conv in (opS _ _ _ _) => whnf); rw [Int.toNat_natCast, hget]) | ((conv in (opM _ _ _ _ _) => whnf); (conv in (opS _ _ _ _) => whnf); rw [Int.toNat_natCast, hget]) | refine callK_r (EvR.fr [_, _] d1 rfl rfl ⟨rfl, rfl, trivial⟩ rfl) ?_ | refine callM_l (LEv.fr [_, _] d1 rfl rfl ⟨rfl, rfl, trivial⟩ rfl rfl) ?_ | refine callK_rt (EvR.fr [_, _] d1 rfl rfl ⟨rfl, rfl, trivial⟩ rfl) ?_ | refine callK_rf rfl (EvR.fr [_, _] d1 rfl rfl ⟨rfl, rfl, trivial⟩ rfl) ?_ | refine callK_rft rfl (EvR.fr [_, _] d1 rfl rfl ⟨rfl, rfl, trivial⟩ rfl) ?_ | refine callK_r (EvR.fr [_, _] d2 rfl rfl ⟨rfl, rfl, trivial⟩ rfl) ?_ | refine callM_l (LEv.fr [_, _] d2 rfl rfl ⟨rfl, rfl, trivial⟩ rfl rfl) ?_ | refine callK_rt (EvR.fr [_, _] d2 rfl rfl ⟨rfl, rfl, trivial⟩ rfl) ?_ | refine callK_rf rfl (EvR.fr [_, _] d2 rfl rfl ⟨rfl, rfl, trivial⟩ rfl) ?_ | refine callK_rft rfl (EvR.fr [_, _] d2 rfl rfl ⟨rfl, rfl, trivial⟩ rfl) ?_ | refine callK_r (EvR.fr [_, _] d3 rfl rfl ⟨rfl, rfl, trivial⟩ rfl) ?_ | refine callM_l (LEv.fr [_, _] d3 rfl rfl ⟨rfl, rfl, trivial⟩ rfl rfl) ?_ | refine callK_rt (EvR.fr [_, _] d3 rfl rfl ⟨rfl, rfl, trivial⟩ rfl) ?_ | refine callK_rf rfl (EvR.fr [_, _] d3 rfl rfl ⟨rfl, rfl, trivial⟩ rfl) ?_ | refine callK_rft rfl (EvR.fr [_, _] d3 rfl rfl ⟨rfl, rfl, trivial⟩ rfl) ?_ | refine callK_r (EvR.fr [_, _] d4 rfl rfl ⟨rfl, rfl, trivial⟩ rfl) ?_ | refine callM_l (LEv.fr [_, _] d4 rfl rfl ⟨rfl, rfl, trivial⟩ rfl rfl) ?_ | refine callK_rt (EvR.fr [_, _] d4 rfl rfl ⟨rfl, rfl, trivial⟩ rfl) ?_ | refine callK_rf rfl (EvR.fr [_, _] d4 rfl rfl ⟨rfl, rfl, trivial⟩ rfl) ?_ | refine callK_rft rfl (EvR.fr [_, _] d4 rfl rfl ⟨rfl, rfl, trivial⟩ rfl) ?_ | refine callK_r (EvR.fr [_, _] d5 rfl rfl ⟨rfl, rfl, trivial⟩ rfl) ?_ | refine callM_l (LEv.fr [_, _] d5 rfl rfl ⟨rfl, rfl, trivial⟩ rfl rfl) ?_ | refine callK_rt (EvR.fr [_, _] d5 rfl rfl ⟨rfl, rfl, trivial⟩ rfl) ?_ | refine callK_rf rfl (EvR.fr [_, _] d5 rfl rfl ⟨rfl, rfl, trivial⟩ rfl) ?_ | refine callK_rft rfl (EvR.fr [_, _] d5 rfl rfl ⟨rfl, rfl, trivial⟩ rfl) ?_ | refine callK_r (EvR.fr [_, _] d6 rfl rfl ⟨rfl, rfl, trivial⟩ rfl) ?_ | refine callM_l (LEv.fr [_, _] d6 rfl rfl ⟨rfl, rfl, trivial⟩ rfl rfl) ?_ | refine callK_rt (EvR.fr [_, _] d6 rfl rfl ⟨rfl, rfl, trivial⟩ rfl) ?_ | refine callK_rf rfl (EvR.fr [_, _] d6 rfl rfl ⟨rfl, rfl, trivial⟩ rfl) ?_ | refine callK_rft rfl (EvR.fr [_, _] d6 rfl rfl ⟨rfl, rfl, trivial⟩ rfl) ?_ | refine callK_r (EvR.fr [_, _] d7 rfl rfl ⟨rfl, rfl, trivial⟩ rfl) ?_ | refine callM_l (LEv.fr [_, _] d7 rfl rfl ⟨rfl, rfl, trivial⟩ rfl rfl) ?_ | refine callK_rt (EvR.fr [_, _] d7 rfl rfl ⟨rfl, rfl, trivial⟩ rfl) ?_ | refine callK_rf rfl (EvR.fr [_, _] d7 rfl rfl ⟨rfl, rfl, trivial⟩ rfl) ?_ | refine callK_rft rfl (EvR.fr [_, _] d7 rfl rfl ⟨rfl, rfl, trivial⟩ rfl) ?_ | ((rw [z1])) | ((rw [z2])) | ((rw [z3])) | refine wpfS_seq1 ?_ | refine wpfS_go ?_ | fail) <;> conv => whnf)
    rw [hw2]
    refine ⟨i + 1, 0, hi', (show l.length - (i + 1) < l.length - i by omega), ⟨rfl, rfl, rfl, rfl, trivial⟩, Nat.le_refl 0, ?_, rfl, rfl⟩
    show _ = (⟨wrB e (bs ++ numB l.length 1 ++ (l.take (i + 1)).flatMap Msg.bytes), []⟩ : Hp)
    rw [hb1]; rfl
  · have hi' : i = l.length := by have := of_decide_eq_false h; omega
    subst hi'
    clear h
    rw [List.take_length]
    conv => whnf
    repeat' ((first | refine brP_t (by assumption) ?_ | refine brP_f (by assumption) ?_ | refine brP_t (decide_eq_true (by omega)) ?_ | refine brP_f (decide_eq_false (by omega)) ?_ | refine brP_t (nd_t (by omega)) ?_ | refine brP_f (nd_f (by omega)) ?_ | refine wpfS_seq1 ?_ | refine wpfS_go ?_ | fail) <;> conv => whnf)
    refine ⟨rfl, ?_⟩
    show (⟨wrB e (bs ++ numB l.length 1 ++ l.flatMap Msg.bytes), []⟩ : Hp) = _
    rw [msgsB, List.append_assoc]
set_option maxHeartbeats 1000000 in
theorem R22_Write_ok (e : Int) (bs : List UInt8) (hb : bs.length ≤ 2 ^ 39) (l : List Msg) (hl : l.length ≤ 255) (hok : ∀ m ∈ l, m.Ok ∧ m.fine = true) : EvR PR G f_R22_Write [.c (.ptr (.par 0) 0), slv (msgs l)] ⟨rwB e bs, []⟩ (.tup []) ⟨rwB e (bs ++ msgsB l), []⟩ := by
  have hml := msgs_len (l := l)
  have c0 := rw_num_ok e bs (by omega) l.length 1 (okNum_of (by omega) (by omega))
  refine EvR.of_wpfC false false hm c_R22_Write rfl rfl ?_
  refine wpf_seq1 ?_
  conv => whnf
  repeat' ((first | refine brP_t (by assumption) ?_ | refine brP_f (by assumption) ?_ | refine brP_t (decide_eq_true (by omega)) ?_ | refine brP_f (decide_eq_false (by omega)) ?_ | refine brP_t (nd_t (by omega)) ?_ | refine brP_f (nd_f (by omega)) ?_ | ((rw [hml])) | refine callK_r (EvR.fr [_, _] c0 rfl rfl ⟨rfl, rfl, trivial⟩ rfl) ?_ | refine callM_l (LEv.fr [_, _] c0 rfl rfl ⟨rfl, rfl, trivial⟩ rfl rfl) ?_ | refine callK_rt (EvR.fr [_, _] c0 rfl rfl ⟨rfl, rfl, trivial⟩ rfl) ?_ | refine callK_rf rfl (EvR.fr [_, _] c0 rfl rfl ⟨rfl, rfl, trivial⟩ rfl) ?_ | refine callK_rft rfl (EvR.fr [_, _] c0 rfl rfl ⟨rfl, rfl, trivial⟩ rfl) ?_ | refine wpfS_seq1 ?_ | refine wpfS_go ?_ | fail) <;> conv => whnf)
  refine SemS.loopC false hm (σ := Nat) (fun i => [(4, iv i), (1, slv (msgs l)), (0, .c (.ptr (.par 0) 0))]) (fun i => ⟨rwB e (bs ++ numB l.length 1 ++ (l.take i).flatMap Msg.bytes), []⟩) (fun i => l.length - i) (fun i => i ≤ l.length) 0 (Nat.zero_le _) ⟨rfl, rfl, rfl, trivial⟩ (by show _ = (⟨rwB e (bs ++ numB l.length 1 ++ []), []⟩ : Hp); rw [List.append_nil]; rfl) ?_
  intro i hi
  refine wpf_seq1 ?_
  conv => whnf
  rw [hml]
  refine brP_mk (fun h => ?_) (fun h => ?_)
  · have hi' : i < l.length := by have := of_decide_eq_true h; omega
    clear h
    have hget := msgs_get hi'
    have hw2 : IntKind.i64.wrap ((i : Int) + 1) = ((i + 1 : Nat) : Int) := by rw [wrap64 (by omega)]; rfl
    obtain ⟨hmo, hmf⟩ := hok l[i] (List.getElem_mem hi')
    have hft := flat_take hi'
    have hfl := flat_len (l := l.take i) fun m hm => (Msg.fine_iff.1 (hok m (List.mem_of_mem_take hm)).2).2.2.2.2.2.2
    have htl : (l.take i).length = i := by rw [List.length_take]; omega
    have hbl : (bs ++ numB l.length 1 ++ (l.take i).flatMap Msg.bytes).length ≤ 2 ^ 39 + 20000 := by
      simp only [List.length_append, numB_len]
      omega
    have hfin : bs ++ numB l.length 1 ++ (l.take (i + 1)).flatMap Msg.bytes = run7 (bs ++ numB l.length 1 ++ (l.take i).flatMap Msg.bytes) l[i] := by rw [run7_eq, hft, ← List.append_assoc]
    generalize hb0 : bs ++ numB l.length 1 ++ (l.take i).flatMap Msg.bytes = b0 at *
    generalize hb1 : bs ++ numB l.length 1 ++ (l.take (i + 1)).flatMap Msg.bytes = b1 at *
    generalize l[i] = m at *
    obtain ⟨no, ep, s, i', role, used, data⟩ := m
    obtain ⟨q1, q2, q3, q4, q5, q6, q7⟩ := Msg.fine_iff.1 hmf
    obtain ⟨p1, p2, p3, p4, p5, p6⟩ := hmo
    dsimp only at q1 q2 q3 q4 q5 q6 q7 p1 p2 p3 p4 p5 p6
    obtain ⟨no, rfl⟩ := Int.eq_ofNat_of_zero_le q1
    obtain ⟨ep, rfl⟩ := Int.eq_ofNat_of_zero_le q3
    obtain ⟨role, rfl⟩ := Int.eq_ofNat_of_zero_le q5
    have hget : (msgs l)[i]? = some [.int .i64 no, .int .i64 ep, .int .u16 s, .int .u16 i', .int .i64 role, .int .u16 used, .str data] := hget
    unfold run7 at hfin
    dsimp only [Int.toNat_natCast] at hfin
    have d1 := rw_num_ok e b0 (by omega) no 4 (okNum_of (by omega) (by omega))
    have n1 : (b0 ++ numB no 4).length ≤ 2 ^ 39 + 20100 := by rw [List.length_append, numB_len]; omega
    generalize b0 ++ numB no 4 = x1 at *
    have d2 := rw_num_ok e x1 (by omega) ep 1 (okNum_of (by omega) (by omega))
    have n2 : (x1 ++ numB ep 1).length ≤ 2 ^ 39 + 20200 := by rw [List.length_append, numB_len]; omega
    generalize x1 ++ numB ep 1 = x2 at *
    have d3 := rw_num_ok e x2 (by omega) s 2 (okNum_of (by omega) (by omega))
    have n3 : (x2 ++ numB s 2).length ≤ 2 ^ 39 + 20300 := by rw [List.length_append, numB_len]; omega
    generalize x2 ++ numB s 2 = x3 at *
    have d4 := rw_num_ok e x3 (by omega) i' 2 (okNum_of (by omega) (by omega))
    have n4 : (x3 ++ numB i' 2).length ≤ 2 ^ 39 + 20400 := by rw [List.length_append, numB_len]; omega
    generalize x3 ++ numB i' 2 = x4 at *
    have d5 := rw_num_ok e x4 (by omega) role 1 (okNum_of (by omega) (by omega))
    have n5 : (x4 ++ numB role 1).length ≤ 2 ^ 39 + 20500 := by rw [List.length_append, numB_len]; omega
    generalize x4 ++ numB role 1 = x5 at *
    have d6 := rw_num_ok e x5 (by omega) used 2 (okNum_of (by omega) (by omega))
    have n6 : (x5 ++ numB used 2).length ≤ 2 ^ 39 + 20600 := by rw [List.length_append, numB_len]; omega
    generalize x5 ++ numB used 2 = x6 at *
    have d7 := rw_text_ok e x6 (by omega) data (by omega)
    generalize x6 ++ textB data = x7 at *
    have z1 : IntKind.i64.wrap (s : Int) = s := wrap64 (by omega)
    have z2 : IntKind.i64.wrap (i' : Int) = i' := wrap64 (by omega)
    have z3 : IntKind.i64.wrap (used : Int) = used := wrap64 (by omega)
    subst hfin
    clear hmf hft hfl htl hbl n1 n2 n3 n4 n5 n6
    repeat' ((first | refine brP_t (by assumption) ?_ | refine brP_f (by assumption) ?_ | refine brP_t (decide_eq_true (by omega)) ?_ | refine brP_f (decide_eq_false (by omega)) ?_ | refine brP_t (nd_t (by omega)) ?_ | refine brP_f (nd_f (by omega)) ?_ | ((conv in (opS _ _ _ _) => whnf); rw [Int.toNat_natCast, hget]) | ((conv in (opM _ _ _ _ _) => whnf); (conv in (opS _ _ _ _) => whnf); rw [Int.toNat_natCast, hget]) | refine callK_r (EvR.fr [_, _] d1 rfl rfl ⟨rfl, rfl, trivial⟩ rfl) ?_ | refine callM_l (LEv.fr [_, _] d1 rfl rfl ⟨rfl, rfl, trivial⟩ rfl rfl) ?_ | refine callK_rt (EvR.fr [_, _] d1 rfl rfl ⟨rfl, rfl, trivial⟩ rfl) ?_ | refine callK_rf rfl (EvR.fr [_, _] d1 rfl rfl ⟨rfl, rfl, trivial⟩ rfl) ?_ | refine callK_rft rfl (EvR.fr [_, _] d1 rfl rfl ⟨rfl, rfl, trivial⟩ rfl) ?_ | refine callK_r (EvR.fr [_, _] d2 rfl rfl ⟨rfl, rfl, trivial⟩ rfl) ?_ | refine callM_l (LEv.fr [_, _] d2 rfl rfl ⟨rfl, rfl, trivial⟩ rfl rfl) ?_ | refine callK_rt (EvR.fr [_, _] d2 rfl rfl ⟨rfl, rfl, trivial⟩ rfl) ?_ | refine callK_rf rfl (EvR.fr [_, _] d2 rfl rfl ⟨rfl, rfl, trivial⟩ rfl) ?_ | refine callK_rft rfl (EvR.fr [_, _] d2 rfl rfl ⟨rfl, rfl, trivial⟩ rfl) ?_ | refine callK_r (EvR.fr [_, _] d3 rfl rfl ⟨rfl, rfl, trivial⟩ rfl) ?_ | refine callM_l (LEv.fr [_, _] d3 rfl rfl ⟨rfl, rfl, trivial⟩ rfl rfl) ?_ | refine callK_rt (EvR.fr [_, _] d3 rfl rfl ⟨rfl, rfl, trivial⟩ rfl) ?_ | refine callK_rf rfl (EvR.fr [_, _] d3 rfl rfl ⟨rfl, rfl, trivial⟩ rfl) ?_ | refine callK_rft rfl (EvR.fr [_, _] d3 rfl rfl ⟨rfl, rfl, trivial⟩ rfl) ?_ | refine callK_r (EvR.fr [_, _] d4 rfl rfl ⟨rfl, rfl, trivial⟩ rfl) ?_ | refine callM_l (LEv.fr [_, _] d4 rfl rfl ⟨rfl, rfl, trivial⟩ rfl rfl) ?_ | refine callK_rt (EvR.fr [_, _] d4 rfl rfl ⟨rfl, rfl, trivial⟩ rfl) ?_ | refine callK_rf rfl (EvR.fr [_, _] d4 rfl rfl ⟨rfl, rfl, trivial⟩ rfl) ?_ | refine callK_rft rfl (EvR.fr [_, _] d4 rfl rfl ⟨rfl, rfl, trivial⟩ rfl) ?_ | refine callK_r (EvR.fr [_, _] d5 rfl rfl ⟨rfl, rfl, trivial⟩ rfl) ?_ | refine callM_l (LEv.fr [_, _] d5 rfl rfl ⟨rfl, rfl, trivial⟩ rfl rfl) ?_ | refine callK_rt (EvR.fr [_, _] d5 rfl rfl ⟨rfl, rfl, trivial⟩ rfl) ?_ | refine callK_rf rfl (EvR.fr [_, _] d5 rfl rfl ⟨rfl, rfl, trivial⟩ rfl) ?_ | refine callK_rft rfl (EvR.fr [_, _] d5 rfl rfl ⟨rfl, rfl, trivial⟩ rfl) ?_ | refine callK_r (EvR.fr [_, _] d6 rfl rfl ⟨rfl, rfl, trivial⟩ rfl) ?_ | refine callM_l (LEv.fr [_, _] d6 rfl rfl ⟨rfl, rfl, trivial⟩ rfl rfl) ?_ | refine callK_rt (EvR.fr [_, _] d6 rfl rfl ⟨rfl, rfl, trivial⟩ rfl) ?_ | refine callK_rf rfl (EvR.fr [_, _] d6 rfl rfl ⟨rfl, rfl, trivial⟩ rfl) ?_ | refine callK_rft rfl (EvR.fr [_, _] d6 rfl rfl ⟨rfl, rfl, trivial⟩ rfl) ?_ | refine callK_r (EvR.fr [_, _] d7 rfl rfl ⟨rfl, rfl, trivial⟩ rfl) ?_ | refine callM_l (LEv.fr [_, _] d7 rfl rfl ⟨rfl, rfl, trivial⟩ rfl rfl) ?_ | refine callK_rt (EvR.fr [_, _] d7 rfl rfl ⟨rfl, rfl, trivial⟩ rfl) ?_ | refine callK_rf rfl (EvR.fr [_, _] d7 rfl rfl ⟨rfl, rfl, trivial⟩ rfl) ?_ | refine callK_rft rfl (EvR.fr [_, _] d7 rfl rfl ⟨rfl, rfl, trivial⟩ rfl) ?_ | ((rw [z1])) | ((rw [z2])) | ((rw [z3])) | refine wpfS_seq1 ?_ | refine wpfS_go ?_ | fail) <;> conv => whnf)
    rw [hw2]
    refine ⟨i + 1, 0, hi', (show l.length - (i + 1) < l.length - i by omega), ⟨rfl, rfl, rfl, trivial⟩, Nat.le_refl 0, ?_, rfl, rfl⟩
    show _ = (⟨rwB e (bs ++ numB l.length 1 ++ (l.take (i + 1)).flatMap Msg.bytes), []⟩ : Hp)
    rw [hb1]; rfl
  · have hi' : i = l.length := by have := of_decide_eq_false h; omega
    subst hi'
    clear h
    rw [List.take_length]
    conv => whnf
    repeat' ((first | refine brP_t (by assumption) ?_ | refine brP_f (by assumption) ?_ | refine brP_t (decide_eq_true (by omega)) ?_ | refine brP_f (decide_eq_false (by omega)) ?_ | refine brP_t (nd_t (by omega)) ?_ | refine brP_f (nd_f (by omega)) ?_ | refine wpfS_seq1 ?_ | refine wpfS_go ?_ | fail) <;> conv => whnf)
    refine ⟨rfl, ?_⟩
    show (⟨rwB e (bs ++ numB l.length 1 ++ l.flatMap Msg.bytes), []⟩ : Hp) = _
    rw [msgsB, List.append_assoc]
end Go.Ab.S
