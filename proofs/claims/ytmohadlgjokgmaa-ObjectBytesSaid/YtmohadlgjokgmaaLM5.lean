/- Part of a proof; no condition. Part of a proof; no condition. -/
import Derived.Test.YtmohadlgjokgmaaLM3
set_option linter.unusedSimpArgs false
set_option linter.unusedVariables false
namespace Go.Ab.S
open Go Go.Ab Go.Proofs
attribute [local irreducible] SemS
set_option maxRecDepth 100000
/-- A message's bytes. -/
def Msg.bytes (m : Msg) : List UInt8 := numB m.no.toNat 4 ++ (numB m.ep.toNat 1 ++ (numB m.s 2 ++ (numB m.i 2 ++ (numB m.role.toNat 1 ++ (numB m.used 2 ++ textB m.data)))))
def msgsB (l : List Msg) : List UInt8 := numB l.length 1 ++ l.flatMap Msg.bytes
theorem Msg.bytes_len {m : Msg} (h : m.data.length ≤ 32) : m.bytes.length ≤ 45 := by
  unfold Msg.bytes textB
  simp only [List.length_append, numB_len, List.length_cons]
  omega
theorem flat_len : ∀ {l : List Msg}, (∀ m ∈ l, m.data.length ≤ 32) → (l.flatMap Msg.bytes).length ≤ 45 * l.length
  | [], _ => by simp
  | m :: l, h => by
    have h1 := flat_len (l := l) fun q hq => h q (List.mem_cons_of_mem _ hq)
    have h2 := Msg.bytes_len (h m List.mem_cons_self)
    rw [List.flatMap_cons, List.length_append, List.length_cons]
    omega
theorem flat_take {l : List Msg} {i : Nat} (h : i < l.length) : (l.take (i + 1)).flatMap Msg.bytes = (l.take i).flatMap Msg.bytes ++ l[i].bytes := by
  rw [List.take_succ_eq_append_getElem h, List.flatMap_append]; simp
/-- The bytes of what is written one behind the other. -/
def run7 (bs : List UInt8) (m : Msg) : List UInt8 := bs ++ numB m.no.toNat 4 ++ numB m.ep.toNat 1 ++ numB m.s 2 ++ numB m.i 2 ++ numB m.role.toNat 1 ++ numB m.used 2 ++ textB m.data
theorem run7_eq (bs : List UInt8) (m : Msg) : run7 bs m = bs ++ m.bytes := by
  unfold run7 Msg.bytes
  simp only [List.append_assoc]
set_option maxHeartbeats 1000000 in
theorem message_Write_ok (e : Int) (bs : List UInt8) (hb : bs.length ≤ 2 ^ 39) (l : List Msg) (hl : l.length ≤ 255) (hok : ∀ m ∈ l, m.Ok ∧ m.fine = true) : EvR PR G f_message_Write [.c (.ptr (.par 0) 0), slv (msgs l)] ⟨wrB e bs, []⟩ (.tup []) ⟨wrB e (bs ++ msgsB l), []⟩ := by
  have hml := msgs_len (l := l)
  have c0 := w_num_ok e bs (by omega) l.length 1 (okNum_of (by omega) (by omega))
  refine EvR.of_wpfC false false hm c_message_Write rfl rfl ?_
  refine wpf_seq1 ?_
  conv => whnf
  repeat' ((first | refine brP_t (by assumption) ?_ | refine brP_f (by assumption) ?_ | refine brP_t (decide_eq_true (by omega)) ?_ | refine brP_f (decide_eq_false (by omega)) ?_ | refine brP_t (nd_t (by omega)) ?_ | refine brP_f (nd_f (by omega)) ?_ | ((rw [hml])) | refine callK_r (EvR.fr [_, _] c0 rfl rfl ⟨rfl, rfl, trivial⟩ rfl) ?_ | refine callM_l (LEv.fr [_, _] c0 rfl rfl ⟨rfl, rfl, trivial⟩ rfl rfl) ?_ | refine callK_rt (EvR.fr [_, _] c0 rfl rfl ⟨rfl, rfl, trivial⟩ rfl) ?_ | refine callK_rf rfl (EvR.fr [_, _] c0 rfl rfl ⟨rfl, rfl, trivial⟩ rfl) ?_ | refine callK_rft rfl (EvR.fr [_, _] c0 rfl rfl ⟨rfl, rfl, trivial⟩ rfl) ?_ | refine wpfS_seq1 ?_ | refine wpfS_go ?_ | fail) <;> conv => whnf)
  refine SemS.loopC false hm (σ := Nat) (fun i => [(12, iv i), (11, iv l.length), (10, slv (msgs l)), (0, .c (.ptr (.par 0) 0))]) (fun i => ⟨wrB e (bs ++ numB l.length 1 ++ (l.take i).flatMap Msg.bytes), []⟩) (fun i => l.length - i) (fun i => i ≤ l.length) 0 (Nat.zero_le _) ⟨rfl, rfl, rfl, rfl, trivial⟩ (by show _ = (⟨wrB e (bs ++ numB l.length 1 ++ []), []⟩ : Hp); rw [List.append_nil]; rfl) ?_
  intro i hi
  refine wpf_seq1 ?_
  conv => whnf
  refine wpfS_seq1 ?_
  conv => whnf
  refine brP_mk (fun h => ?_) (fun h => ?_)
  · have hi' : i < l.length := by have := of_decide_eq_true h; omega
    clear h
    have hget := msgs_get hi'
    have hw2 : IntKind.i64.wrap ((i : Int) + 1) = ((i + 1 : Nat) : Int) := by rw [wrap64 (by omega)]; rfl
    obtain ⟨hmo, hmf⟩ := hok l[i] (List.getElem_mem hi')
    have hft := flat_take hi'
    have hfl := flat_len (l := l.take i) fun m hm => (Msg.fine_iff.1 (hok m (List.mem_of_mem_take hm)).2).2.2.2.2.2.2
    have htl : (l.take i).length = i := by rw [List.length_take]; omega
    have hbl : (bs ++ numB l.length 1 ++ (l.take i).flatMap Msg.bytes).length ≤ 2 ^ 39 + 20000 := by
      simp only [List.length_append, numB_len]
      omega
    have hfin : bs ++ numB l.length 1 ++ (l.take (i + 1)).flatMap Msg.bytes = run7 (bs ++ numB l.length 1 ++ (l.take i).flatMap Msg.bytes) l[i] := by rw [run7_eq, hft, ← List.append_assoc]
    generalize hb0 : bs ++ numB l.length 1 ++ (l.take i).flatMap Msg.bytes = b0 at *
    generalize hb1 : bs ++ numB l.length 1 ++ (l.take (i + 1)).flatMap Msg.bytes = b1 at *
    generalize l[i] = m at *
    obtain ⟨no, ep, s, i', role, used, data⟩ := m
    obtain ⟨q1, q2, q3, q4, q5, q6, q7⟩ := Msg.fine_iff.1 hmf
    obtain ⟨p1, p2, p3, p4, p5, p6⟩ := hmo
    dsimp only at q1 q2 q3 q4 q5 q6 q7 p1 p2 p3 p4 p5 p6
    obtain ⟨no, rfl⟩ := Int.eq_ofNat_of_zero_le q1
    obtain ⟨ep, rfl⟩ := Int.eq_ofNat_of_zero_le q3
    obtain ⟨role, rfl⟩ := Int.eq_ofNat_of_zero_le q5
    have hget : (msgs l)[i]? = some [.int .i64 no, .int .i64 ep, .int .u16 s, .int .u16 i', .int .i64 role, .int .u16 used, .str data] := hget
    unfold run7 at hfin
    dsimp only [Int.toNat_natCast] at hfin
    have d1 := w_num_ok e b0 (by omega) no 4 (okNum_of (by omega) (by omega))
    have n1 : (b0 ++ numB no 4).length ≤ 2 ^ 39 + 20100 := by rw [List.length_append, numB_len]; omega
    generalize b0 ++ numB no 4 = x1 at *
    have d2 := w_num_ok e x1 (by omega) ep 1 (okNum_of (by omega) (by omega))
    have n2 : (x1 ++ numB ep 1).length ≤ 2 ^ 39 + 20200 := by rw [List.length_append, numB_len]; omega
    generalize x1 ++ numB ep 1 = x2 at *
    have d3 := w_num_ok e x2 (by omega) s 2 (okNum_of (by omega) (by omega))
    have n3 : (x2 ++ numB s 2).length ≤ 2 ^ 39 + 20300 := by rw [List.length_append, numB_len]; omega
    generalize x2 ++ numB s 2 = x3 at *
    have d4 := w_num_ok e x3 (by omega) i' 2 (okNum_of (by omega) (by omega))
    have n4 : (x3 ++ numB i' 2).length ≤ 2 ^ 39 + 20400 := by rw [List.length_append, numB_len]; omega
    generalize x3 ++ numB i' 2 = x4 at *
    have d5 := w_num_ok e x4 (by omega) role 1 (okNum_of (by omega) (by omega))
    have n5 : (x4 ++ numB role 1).length ≤ 2 ^ 39 + 20500 := by rw [List.length_append, numB_len]; omega
    generalize x4 ++ numB role 1 = x5 at *
    have d6 := w_num_ok e x5 (by omega) used 2 (okNum_of (by omega) (by omega))
    have n6 : (x5 ++ numB used 2).length ≤ 2 ^ 39 + 20600 := by rw [List.length_append, numB_len]; omega
    generalize x5 ++ numB used 2 = x6 at *
    have d7 := w_text_ok e x6 (by omega) data (by omega)
    generalize x6 ++ textB data = x7 at *
    have z1 : IntKind.i64.wrap (s : Int) = s := wrap64 (by omega)
    have z2 : IntKind.i64.wrap (i' : Int) = i' := wrap64 (by omega)
    have z3 : IntKind.i64.wrap (used : Int) = used := wrap64 (by omega)
    subst hfin
    clear hmf hft hfl htl hbl n1 n2 n3 n4 n5 n6
    repeat' ((first | refine brP_t (by assumption) ?_ | refine brP_f (by assumption) ?_ | refine brP_t (decide_eq_true (by omega)) ?_ | refine brP_f (decide_eq_false (by omega)) ?_ | refine brP_t (nd_t (by omega)) ?_ | refine brP_f (nd_f (by omega)) ?_ | ((conv in (opS _ _ _ _) => whnf); rw [Int.toNat_natCast, hget]) | ((conv in (opM _ _ _ _ _) => whnf); (conv in (opS _ _ _ _) => whnf); rw [Int.toNat_natCast, hget]) | refine callK_r (EvR.fr [_, _] d1 rfl rfl ⟨rfl, rfl, trivial⟩ rfl) ?_ | refine callM_l (LEv.fr [_, _] d1 rfl rfl ⟨rfl, rfl, trivial⟩ rfl rfl) ?_ | refine callK_rt (EvR.fr [_, _] d1 rfl rfl ⟨rfl, rfl, trivial⟩ rfl) ?_ | refine callK_rf rfl (EvR.fr [_, _] d1 rfl rfl ⟨rfl, rfl, trivial⟩ rfl) ?_ | refine callK_rft rfl (EvR.fr [_, _] d1 rfl rfl ⟨rfl, rfl, trivial⟩ rfl) ?_ | refine callK_r (EvR.fr [_, _] d2 rfl rfl ⟨rfl, rfl, trivial⟩ rfl) ?_ | refine callM_l (LEv.fr [_, _] d2 rfl rfl ⟨rfl, rfl, trivial⟩ rfl rfl) ?_ | refine callK_rt (EvR.fr [_, _] d2 rfl rfl ⟨rfl, rfl, trivial⟩ rfl) ?_ | refine callK_rf rfl (EvR.fr [_, _] d2 rfl rfl ⟨rfl, rfl, trivial⟩ rfl) ?_ | refine callK_rft rfl (EvR.fr [_, _] d2 rfl rfl ⟨rfl, rfl, trivial⟩ rfl) ?_ | refine callK_r (EvR.fr [_, _] d3 rfl rfl ⟨rfl, rfl, trivial⟩ rfl) ?_ | refine callM_l (LEv.fr [_, _] d3 rfl rfl ⟨rfl, rfl, trivial⟩ rfl rfl) ?_ | refine callK_rt (EvR.fr [_, _] d3 rfl rfl ⟨rfl, rfl, trivial⟩ rfl) ?_ | refine callK_rf rfl (EvR.fr [_, _] d3 rfl rfl ⟨rfl, rfl, trivial⟩ rfl) ?_ | refine callK_rft rfl (EvR.fr [_, _] d3 rfl rfl ⟨rfl, rfl, trivial⟩ rfl) ?_ | refine callK_r (EvR.fr [_, _] d4 rfl rfl ⟨rfl, rfl, trivial⟩ rfl) ?_ | refine callM_l (LEv.fr [_, _] d4 rfl rfl ⟨rfl, rfl, trivial⟩ rfl rfl) ?_ | refine callK_rt (EvR.fr [_, _] d4 rfl rfl ⟨rfl, rfl, trivial⟩ rfl) ?_ | refine callK_rf rfl (EvR.fr [_, _] d4 rfl rfl ⟨rfl, rfl, trivial⟩ rfl) ?_ | refine callK_rft rfl (EvR.fr [_, _] d4 rfl rfl ⟨rfl, rfl, trivial⟩ rfl) ?_ | refine callK_r (EvR.fr [_, _] d5 rfl rfl ⟨rfl, rfl, trivial⟩ rfl) ?_ | refine callM_l (LEv.fr [_, _] d5 rfl rfl ⟨rfl, rfl, trivial⟩ rfl rfl) ?_ | refine callK_rt (EvR.fr [_, _] d5 rfl rfl ⟨rfl, rfl, trivial⟩ rfl) ?_ | refine callK_rf rfl (EvR.fr [_, _] d5 rfl rfl ⟨rfl, rfl, trivial⟩ rfl) ?_ | refine callK_rft rfl (EvR.fr [_, _] d5 rfl rfl ⟨rfl, rfl, trivial⟩ rfl) ?_ | refine callK_r (EvR.fr [_, _] d6 rfl rfl ⟨rfl, rfl, trivial⟩ rfl) ?_ | refine callM_l (LEv.fr [_, _] d6 rfl rfl ⟨rfl, rfl, trivial⟩ rfl rfl) ?_ | refine callK_rt (EvR.fr [_, _] d6 rfl rfl ⟨rfl, rfl, trivial⟩ rfl) ?_ | refine callK_rf rfl (EvR.fr [_, _] d6 rfl rfl ⟨rfl, rfl, trivial⟩ rfl) ?_ | refine callK_rft rfl (EvR.fr [_, _] d6 rfl rfl ⟨rfl, rfl, trivial⟩ rfl) ?_ | refine callK_r (EvR.fr [_, _] d7 rfl rfl ⟨rfl, rfl, trivial⟩ rfl) ?_ | refine callM_l (LEv.fr [_, _] d7 rfl rfl ⟨rfl, rfl, trivial⟩ rfl rfl) ?_ | refine callK_rt (EvR.fr [_, _] d7 rfl rfl ⟨rfl, rfl, trivial⟩ rfl) ?_ | refine callK_rf rfl (EvR.fr [_, _] d7 rfl rfl ⟨rfl, rfl, trivial⟩ rfl) ?_ | refine callK_rft rfl (EvR.fr [_, _] d7 rfl rfl ⟨rfl, rfl, trivial⟩ rfl) ?_ | ((rw [z1])) | ((rw [z2])) | ((rw [z3])) | refine wpfS_seq1 ?_ | refine wpfS_go ?_ | fail) <;> conv => whnf)
    rw [hw2]
    refine ⟨i + 1, 0, hi', (show l.length - (i + 1) < l.length - i by omega), ⟨rfl, rfl, rfl, rfl, trivial⟩, Nat.le_refl 0, ?_, rfl, rfl⟩
    show _ = (⟨wrB e (bs ++ numB l.length 1 ++ (l.take (i + 1)).flatMap Msg.bytes), []⟩ : Hp)
    rw [hb1]; rfl
  · have hi' : i = l.length := by have := of_decide_eq_false h; omega
    subst hi'
    clear h
    rw [List.take_length]
    conv => whnf
    repeat' ((first | refine brP_t (by assumption) ?_ | refine brP_f (by assumption) ?_ | refine brP_t (decide_eq_true (by omega)) ?_ | refine brP_f (decide_eq_false (by omega)) ?_ | refine brP_t (nd_t (by omega)) ?_ | refine brP_f (nd_f (by omega)) ?_ | refine wpfS_seq1 ?_ | refine wpfS_go ?_ | fail) <;> conv => whnf)
    refine ⟨rfl, ?_⟩
    show (⟨wrB e (bs ++ numB l.length 1 ++ l.flatMap Msg.bytes), []⟩ : Hp) = _
    rw [msgsB, List.append_assoc]
set_option maxHeartbeats 1000000 in
theorem R22_Write_ok (e : Int) (bs : List UInt8) (hb : bs.length ≤ 2 ^ 39) (l : List Msg) (hl : l.length ≤ 255) (hok : ∀ m ∈ l, m.Ok ∧ m.fine = true) : EvR PR G f_R22_Write [.c (.ptr (.par 0) 0), slv (msgs l)] ⟨rwB e bs, []⟩ (.tup []) ⟨rwB e (bs ++ msgsB l), []⟩ := by
  have hml := msgs_len (l := l)
  have c0 := rw_num_ok e bs (by omega) l.length 1 (okNum_of (by omega) (by omega))
  refine EvR.of_wpfC false false hm c_R22_Write rfl rfl ?_
  refine wpf_seq1 ?_
  conv => whnf
  repeat' ((first | refine brP_t (by assumption) ?_ | refine brP_f (by assumption) ?_ | refine brP_t (decide_eq_true (by omega)) ?_ | refine brP_f (decide_eq_false (by omega)) ?_ | refine brP_t (nd_t (by omega)) ?_ | refine brP_f (nd_f (by omega)) ?_ | ((rw [hml])) | refine callK_r (EvR.fr [_, _] c0 rfl rfl ⟨rfl, rfl, trivial⟩ rfl) ?_ | refine callM_l (LEv.fr [_, _] c0 rfl rfl ⟨rfl, rfl, trivial⟩ rfl rfl) ?_ | refine callK_rt (EvR.fr [_, _] c0 rfl rfl ⟨rfl, rfl, trivial⟩ rfl) ?_ | refine callK_rf rfl (EvR.fr [_, _] c0 rfl rfl ⟨rfl, rfl, trivial⟩ rfl) ?_ | refine callK_rft rfl (EvR.fr [_, _] c0 rfl rfl ⟨rfl, rfl, trivial⟩ rfl) ?_ | refine wpfS_seq1 ?_ | refine wpfS_go ?_ | fail) <;> conv => whnf)
  refine SemS.loopC false hm (σ := Nat) (fun i => [(4, iv i), (1, slv (msgs l)), (0, .c (.ptr (.par 0) 0))]) (fun i => ⟨rwB e (bs ++ numB l.length 1 ++ (l.take i).flatMap Msg.bytes), []⟩) (fun i => l.length - i) (fun i => i ≤ l.length) 0 (Nat.zero_le _) ⟨rfl, rfl, rfl, trivial⟩ (by show _ = (⟨rwB e (bs ++ numB l.length 1 ++ []), []⟩ : Hp); rw [List.append_nil]; rfl) ?_
  intro i hi
  refine wpf_seq1 ?_
  conv => whnf
  rw [hml]
  refine brP_mk (fun h => ?_) (fun h => ?_)
  · have hi' : i < l.length := by have := of_decide_eq_true h; omega
    clear h
    have hget := msgs_get hi'
    have hw2 : IntKind.i64.wrap ((i : Int) + 1) = ((i + 1 : Nat) : Int) := by rw [wrap64 (by omega)]; rfl
    obtain ⟨hmo, hmf⟩ := hok l[i] (List.getElem_mem hi')
    have hft := flat_take hi'
    have hfl := flat_len (l := l.take i) fun m hm => (Msg.fine_iff.1 (hok m (List.mem_of_mem_take hm)).2).2.2.2.2.2.2
    have htl : (l.take i).length = i := by rw [List.length_take]; omega
    have hbl : (bs ++ numB l.length 1 ++ (l.take i).flatMap Msg.bytes).length ≤ 2 ^ 39 + 20000 := by
      simp only [List.length_append, numB_len]
      omega
    have hfin : bs ++ numB l.length 1 ++ (l.take (i + 1)).flatMap Msg.bytes = run7 (bs ++ numB l.length 1 ++ (l.take i).flatMap Msg.bytes) l[i] := by rw [run7_eq, hft, ← List.append_assoc]
    generalize hb0 : bs ++ numB l.length 1 ++ (l.take i).flatMap Msg.bytes = b0 at *
    generalize hb1 : bs ++ numB l.length 1 ++ (l.take (i + 1)).flatMap Msg.bytes = b1 at *
    generalize l[i] = m at *
    obtain ⟨no, ep, s, i', role, used, data⟩ := m
    obtain ⟨q1, q2, q3, q4, q5, q6, q7⟩ := Msg.fine_iff.1 hmf
    obtain ⟨p1, p2, p3, p4, p5, p6⟩ := hmo
    dsimp only at q1 q2 q3 q4 q5 q6 q7 p1 p2 p3 p4 p5 p6
    obtain ⟨no, rfl⟩ := Int.eq_ofNat_of_zero_le q1
    obtain ⟨ep, rfl⟩ := Int.eq_ofNat_of_zero_le q3
    obtain ⟨role, rfl⟩ := Int.eq_ofNat_of_zero_le q5
    have hget : (msgs l)[i]? = some [.int .i64 no, .int .i64 ep, .int .u16 s, .int .u16 i', .int .i64 role, .int .u16 used, .str data] := hget
    unfold run7 at hfin
    dsimp only [Int.toNat_natCast] at hfin
    have d1 := rw_num_ok e b0 (by omega) no 4 (okNum_of (by omega) (by omega))
    have n1 : (b0 ++ numB no 4).length ≤ 2 ^ 39 + 20100 := by rw [List.length_append, numB_len]; omega
    generalize b0 ++ numB no 4 = x1 at *
    have d2 := rw_num_ok e x1 (by omega) ep 1 (okNum_of (by omega) (by omega))
    have n2 : (x1 ++ numB ep 1).length ≤ 2 ^ 39 + 20200 := by rw [List.length_append, numB_len]; omega
    generalize x1 ++ numB ep 1 = x2 at *
    have d3 := rw_num_ok e x2 (by omega) s 2 (okNum_of (by omega) (by omega))
    have n3 : (x2 ++ numB s 2).length ≤ 2 ^ 39 + 20300 := by rw [List.length_append, numB_len]; omega
    generalize x2 ++ numB s 2 = x3 at *
    have d4 := rw_num_ok e x3 (by omega) i' 2 (okNum_of (by omega) (by omega))
    have n4 : (x3 ++ numB i' 2).length ≤ 2 ^ 39 + 20400 := by rw [List.length_append, numB_len]; omega
    generalize x3 ++ numB i' 2 = x4 at *
    have d5 := rw_num_ok e x4 (by omega) role 1 (okNum_of (by omega) (by omega))
    have n5 : (x4 ++ numB role 1).length ≤ 2 ^ 39 + 20500 := by rw [List.length_append, numB_len]; omega
    generalize x4 ++ numB role 1 = x5 at *
    have d6 := rw_num_ok e x5 (by omega) used 2 (okNum_of (by omega) (by omega))
    have n6 : (x5 ++ numB used 2).length ≤ 2 ^ 39 + 20600 := by rw [List.length_append, numB_len]; omega
    generalize x5 ++ numB used 2 = x6 at *
    have d7 := rw_text_ok e x6 (by omega) data (by omega)
    generalize x6 ++ textB data = x7 at *
    have z1 : IntKind.i64.wrap (s : Int) = s := wrap64 (by omega)
    have z2 : IntKind.i64.wrap (i' : Int) = i' := wrap64 (by omega)
    have z3 : IntKind.i64.wrap (used : Int) = used := wrap64 (by omega)
    subst hfin
    clear hmf hft hfl htl hbl n1 n2 n3 n4 n5 n6
    repeat' ((first | refine brP_t (by assumption) ?_ | refine brP_f (by assumption) ?_ | refine brP_t (decide_eq_true (by omega)) ?_ | refine brP_f (decide_eq_false (by omega)) ?_ | refine brP_t (nd_t (by omega)) ?_ | refine brP_f (nd_f (by omega)) ?_ | ((conv in (opS _ _ _ _) => whnf); rw [Int.toNat_natCast, hget]) | ((conv in (opM _ _ _ _ _) => whnf); (conv in (opS _ _ _ _) => whnf); rw [Int.toNat_natCast, hget]) | refine callK_r (EvR.fr [_, _] d1 rfl rfl ⟨rfl, rfl, trivial⟩ rfl) ?_ | refine callM_l (LEv.fr [_, _] d1 rfl rfl ⟨rfl, rfl, trivial⟩ rfl rfl) ?_ | refine callK_rt (EvR.fr [_, _] d1 rfl rfl ⟨rfl, rfl, trivial⟩ rfl) ?_ | refine callK_rf rfl (EvR.fr [_, _] d1 rfl rfl ⟨rfl, rfl, trivial⟩ rfl) ?_ | refine callK_rft rfl (EvR.fr [_, _] d1 rfl rfl ⟨rfl, rfl, trivial⟩ rfl) ?_ | refine callK_r (EvR.fr [_, _] d2 rfl rfl ⟨rfl, rfl, trivial⟩ rfl) ?_ | refine callM_l (LEv.fr [_, _] d2 rfl rfl ⟨rfl, rfl, trivial⟩ rfl rfl) ?_ | refine callK_rt (EvR.fr [_, _] d2 rfl rfl ⟨rfl, rfl, trivial⟩ rfl) ?_ | refine callK_rf rfl (EvR.fr [_, _] d2 rfl rfl ⟨rfl, rfl, trivial⟩ rfl) ?_ | refine callK_rft rfl (EvR.fr [_, _] d2 rfl rfl ⟨rfl, rfl, trivial⟩ rfl) ?_ | refine callK_r (EvR.fr [_, _] d3 rfl rfl ⟨rfl, rfl, trivial⟩ rfl) ?_ | refine callM_l (LEv.fr [_, _] d3 rfl rfl ⟨rfl, rfl, trivial⟩ rfl rfl) ?_ | refine callK_rt (EvR.fr [_, _] d3 rfl rfl ⟨rfl, rfl, trivial⟩ rfl) ?_ | refine callK_rf rfl (EvR.fr [_, _] d3 rfl rfl ⟨rfl, rfl, trivial⟩ rfl) ?_ | refine callK_rft rfl (EvR.fr [_, _] d3 rfl rfl ⟨rfl, rfl, trivial⟩ rfl) ?_ | refine callK_r (EvR.fr [_, _] d4 rfl rfl ⟨rfl, rfl, trivial⟩ rfl) ?_ | refine callM_l (LEv.fr [_, _] d4 rfl rfl ⟨rfl, rfl, trivial⟩ rfl rfl) ?_ | refine callK_rt (EvR.fr [_, _] d4 rfl rfl ⟨rfl, rfl, trivial⟩ rfl) ?_ | refine callK_rf rfl (EvR.fr [_, _] d4 rfl rfl ⟨rfl, rfl, trivial⟩ rfl) ?_ | refine callK_rft rfl (EvR.fr [_, _] d4 rfl rfl ⟨rfl, rfl, trivial⟩ rfl) ?_ | refine callK_r (EvR.fr [_, _] d5 rfl rfl ⟨rfl, rfl, trivial⟩ rfl) ?_ | refine callM_l (LEv.fr [_, _] d5 rfl rfl ⟨rfl, rfl, trivial⟩ rfl rfl) ?_ | refine callK_rt (EvR.fr [_, _] d5 rfl rfl ⟨rfl, rfl, trivial⟩ rfl) ?_ | refine callK_rf rfl (EvR.fr [_, _] d5 rfl rfl ⟨rfl, rfl, trivial⟩ rfl) ?_ | refine callK_rft rfl (EvR.fr [_, _] d5 rfl rfl ⟨rfl, rfl, trivial⟩ rfl) ?_ | refine callK_r (EvR.fr [_, _] d6 rfl rfl ⟨rfl, rfl, trivial⟩ rfl) ?_ | refine callM_l (LEv.fr [_, _] d6 rfl rfl ⟨rfl, rfl, trivial⟩ rfl rfl) ?_ | refine callK_rt (EvR.fr [_, _] d6 rfl rfl ⟨rfl, rfl, trivial⟩ rfl) ?_ | refine callK_rf rfl (EvR.fr [_, _] d6 rfl rfl ⟨rfl, rfl, trivial⟩ rfl) ?_ | refine callK_rft rfl (EvR.fr [_, _] d6 rfl rfl ⟨rfl, rfl, trivial⟩ rfl) ?_ | refine callK_r (EvR.fr [_, _] d7 rfl rfl ⟨rfl, rfl, trivial⟩ rfl) ?_ | refine callM_l (LEv.fr [_, _] d7 rfl rfl ⟨rfl, rfl, trivial⟩ rfl rfl) ?_ | refine callK_rt (EvR.fr [_, _] d7 rfl rfl ⟨rfl, rfl, trivial⟩ rfl) ?_ | refine callK_rf rfl (EvR.fr [_, _] d7 rfl rfl ⟨rfl, rfl, trivial⟩ rfl) ?_ | refine callK_rft rfl (EvR.fr [_, _] d7 rfl rfl ⟨rfl, rfl, trivial⟩ rfl) ?_ | ((rw [z1])) | ((rw [z2])) | ((rw [z3])) | refine wpfS_seq1 ?_ | refine wpfS_go ?_ | fail) <;> conv => whnf)
    rw [hw2]
    refine ⟨i + 1, 0, hi', (show l.length - (i + 1) < l.length - i by omega), ⟨rfl, rfl, rfl, trivial⟩, Nat.le_refl 0, ?_, rfl, rfl⟩
    show _ = (⟨rwB e (bs ++ numB l.length 1 ++ (l.take (i + 1)).flatMap Msg.bytes), []⟩ : Hp)
    rw [hb1]; rfl
  · have hi' : i = l.length := by have := of_decide_eq_false h; omega
    subst hi'
    clear h
    rw [List.take_length]
    conv => whnf
    repeat' ((first | refine brP_t (by assumption) ?_ | refine brP_f (by assumption) ?_ | refine brP_t (decide_eq_true (by omega)) ?_ | refine brP_f (decide_eq_false (by omega)) ?_ | refine brP_t (nd_t (by omega)) ?_ | refine brP_f (nd_f (by omega)) ?_ | refine wpfS_seq1 ?_ | refine wpfS_go ?_ | fail) <;> conv => whnf)
    refine ⟨rfl, ?_⟩
    show (⟨rwB e (bs ++ numB l.length 1 ++ l.flatMap Msg.bytes), []⟩ : Hp) = _
    rw [msgsB, List.append_assoc]
end Go.Ab.S

namespace Go.Ab.S
open Go Go.Ab Go.Proofs
attribute [local irreducible] SemS
set_option maxRecDepth 100000
/-! ### Read as it was written -/
theorem bytes_rest (m : Msg) (rest : List UInt8) : m.bytes ++ rest = numB m.no.toNat 4 ++ (numB m.ep.toNat 1 ++ (numB m.s 2 ++ (numB m.i 2 ++ (numB m.role.toNat 1 ++ (numB m.used 2 ++ (textB m.data ++ rest)))))) := by
  unfold Msg.bytes
  simp only [List.append_assoc]
theorem Msg.rd_back (keep : Bool) (m : Msg) (hm' : m.Ok) (hf : m.fine = true) (rest : List UInt8) : Msg.rd keep ⟨0, m.bytes ++ rest⟩ = (m, ⟨0, rest⟩) := by
  rw [bytes_rest]
  obtain ⟨no, ep, s, i', role, used, data⟩ := m
  obtain ⟨q1, q2, q3, q4, q5, q6, q7⟩ := Msg.fine_iff.1 hf
  obtain ⟨p1, p2, p3, p4, p5, p6⟩ := hm'
  dsimp only at q1 q2 q3 q4 q5 q6 q7 p1 p2 p3 p4 p5 p6 ⊢
  obtain ⟨no, rfl⟩ := Int.eq_ofNat_of_zero_le q1
  obtain ⟨ep, rfl⟩ := Int.eq_ofNat_of_zero_le q3
  obtain ⟨role, rfl⟩ := Int.eq_ofNat_of_zero_le q5
  simp only [Int.toNat_natCast]
  unfold Msg.rd
  dsimp only
  obtain ⟨a1, b1⟩ := num_back keep no 4 2147483647 (numB ep 1 ++ (numB s 2 ++ (numB i' 2 ++ (numB role 1 ++ (numB used 2 ++ (textB data ++ rest)))))) (by omega) (by omega) (by omega)
  have a1 : St.num keep ⟨0, _⟩ (4 : Int) 2147483647 = _ := a1
  have b1 : St.nv ⟨0, _⟩ (4 : Int) 2147483647 = _ := b1
  rw [a1, b1]
  obtain ⟨a2, b2⟩ := num_back keep ep 1 255 (numB s 2 ++ (numB i' 2 ++ (numB role 1 ++ (numB used 2 ++ (textB data ++ rest))))) (by omega) (by omega) (by omega)
  have a2 : St.num keep ⟨0, _⟩ (1 : Int) 255 = _ := a2
  have b2 : St.nv ⟨0, _⟩ (1 : Int) 255 = _ := b2
  rw [a2, b2]
  obtain ⟨a3, b3⟩ := num_back keep s 2 65535 (numB i' 2 ++ (numB role 1 ++ (numB used 2 ++ (textB data ++ rest)))) (by omega) (by omega) (by omega)
  have a3 : St.num keep ⟨0, _⟩ (2 : Int) 65535 = _ := a3
  have b3 : St.nv ⟨0, _⟩ (2 : Int) 65535 = _ := b3
  rw [a3, b3]
  obtain ⟨a4, b4⟩ := num_back keep i' 2 65535 (numB role 1 ++ (numB used 2 ++ (textB data ++ rest))) (by omega) (by omega) (by omega)
  have a4 : St.num keep ⟨0, _⟩ (2 : Int) 65535 = _ := a4
  have b4 : St.nv ⟨0, _⟩ (2 : Int) 65535 = _ := b4
  rw [a4, b4]
  obtain ⟨a5, b5⟩ := num_back keep role 1 15 (numB used 2 ++ (textB data ++ rest)) (by omega) (by omega) (by omega)
  have a5 : St.num keep ⟨0, _⟩ (1 : Int) 15 = _ := a5
  have b5 : St.nv ⟨0, _⟩ (1 : Int) 15 = _ := b5
  rw [a5, b5]
  obtain ⟨a6, b6⟩ := num_back keep used 2 65535 (textB data ++ rest) (by omega) (by omega) (by omega)
  have a6 : St.num keep ⟨0, _⟩ (2 : Int) 65535 = _ := a6
  have b6 : St.nv ⟨0, _⟩ (2 : Int) 65535 = _ := b6
  rw [a6, b6]
  obtain ⟨a7, b7⟩ := txt_back keep data rest 32 (by omega) (by omega)
  rw [a7, b7]
  rfl
theorem Msg.rds_back (keep : Bool) : ∀ (l : List Msg) (rest : List UInt8), (∀ m ∈ l, m.Ok ∧ m.fine = true) → Msg.rds keep l.length ⟨0, l.flatMap Msg.bytes ++ rest⟩ = (l, ⟨0, rest⟩)
  | [], rest, _ => rfl
  | m :: l, rest, h => by
    obtain ⟨h1, h2⟩ := h m List.mem_cons_self
    have ih := Msg.rds_back keep l rest fun q hq => h q (List.mem_cons_of_mem _ hq)
    have hb := Msg.rd_back keep m h1 h2 (l.flatMap Msg.bytes ++ rest)
    rw [List.flatMap_cons, List.append_assoc, List.length_cons]
    simp only [Msg.rds, hb, ih, ne_eq, not_true, if_false]
theorem Msg.rdL_back (keep : Bool) (l : List Msg) (rest : List UInt8) (hl : l.length ≤ 255) (h : ∀ m ∈ l, m.Ok ∧ m.fine = true) : Msg.rdL keep ⟨0, msgsB l ++ rest⟩ = (l, ⟨0, rest⟩) := by
  unfold Msg.rdL msgsB
  dsimp only
  rw [List.append_assoc]
  obtain ⟨a1, b1⟩ := num_back keep l.length 1 255 (l.flatMap Msg.bytes ++ rest) (by omega) (by omega) (by omega)
  have a1 : St.num keep ⟨0, _⟩ (1 : Int) 255 = _ := a1
  have b1 : St.nv ⟨0, _⟩ (1 : Int) 255 = _ := b1
  rw [a1, b1, Int.toNat_natCast, Msg.rds_back keep l rest h]
  rfl
/-! ### The program's and the document's read alike -/
theorem Msg.rd_same {s s' : St} (h : SameS s s') : (Msg.rd true s).1 = (Msg.rd false s').1 ∧ SameS (Msg.rd true s).2 (Msg.rd false s').2 := by
  unfold Msg.rd
  dsimp only
  have h1 := h.num 4 2147483647
  have h2 := h1.num 1 255
  have h3 := h2.num 2 65535
  have h4 := h3.num 2 65535
  have h5 := h4.num 1 15
  have h6 := h5.num 2 65535
  have h7 := h6.txt 32
  refine ⟨?_, h7⟩
  rw [h.nv 4 2147483647, h1.nv 1 255, h2.nv 2 65535, h3.nv 2 65535, h4.nv 1 15, h5.nv 2 65535, h6.tv 32]
theorem Msg.rds_same : ∀ (n : Nat) {s s' : St}, SameS s s' → (Msg.rds true n s).1 = (Msg.rds false n s').1 ∧ SameS (Msg.rds true n s).2 (Msg.rds false n s').2
  | 0, s, s', h => ⟨rfl, h⟩
  | n + 1, s, s', h => by
    obtain ⟨h1, h2⟩ := Msg.rd_same h
    simp only [Msg.rds]
    rw [← h2.e]
    split
    · exact ⟨rfl, h2⟩
    · obtain ⟨h3, h4⟩ := Msg.rds_same n h2
      exact ⟨by rw [h1, h3], h4⟩
theorem Msg.rdL_same {s s' : St} (h : SameS s s') : (Msg.rdL true s).1 = (Msg.rdL false s').1 ∧ SameS (Msg.rdL true s).2 (Msg.rdL false s').2 := by
  unfold Msg.rdL
  dsimp only
  rw [← h.nv 1 255]
  obtain ⟨h1, h2⟩ := Msg.rds_same (s.nv 1 255).toNat (h.num 1 255)
  refine ⟨?_, h2⟩
  rw [← h2.e, h1]
theorem Msg.rds_suf {B : List UInt8} {keep : Bool} : ∀ (n : Nat) {s : St}, Suf B s.b → Suf B (Msg.rds keep n s).2.b
  | 0, s, h => h
  | n + 1, s, h => by
    have h1 := Msg.rd_suf h keep
    simp only [Msg.rds]
    split
    · exact h1
    · exact Msg.rds_suf n h1
theorem Msg.rdL_suf {B : List UInt8} {keep : Bool} {s : St} (h : Suf B s.b) : Suf B (Msg.rdL keep s).2.b := Msg.rds_suf _ (h.num keep 1 255)
theorem Msg.rds_len (keep : Bool) : ∀ (n : Nat) (s : St), (Msg.rds keep n s).1.length ≤ n
  | 0, s => Nat.le_refl 0
  | n + 1, s => by
    simp only [Msg.rds]
    split
    · exact Nat.zero_le _
    · have := Msg.rds_len keep n (Msg.rd keep s).2
      simp only [List.length_cons]
      omega
theorem Msg.rdL_len (keep : Bool) (s : St) : (Msg.rdL keep s).1.length ≤ 255 := by
  unfold Msg.rdL
  dsimp only
  have := nv_range (s := s) (size := 1) (most := 255) (by omega)
  have h := Msg.rds_len keep (s.nv 1 255).toNat (s.num keep 1 255)
  split
  · simp
  · omega
end Go.Ab.S
