/- What is written is read; the calls at the end. No condition. -/
import Derived.Test.YtidmpmdhgiopgaaDoorLCH
import Derived.Test.YtidmpmdhgiopgaaDoorLCD
set_option linter.unusedSimpArgs false
set_option linter.unusedVariables false
namespace Go.Ab.S
open Go Go.Ab Go.Proofs
attribute [local irreducible] SemS
set_option maxRecDepth 100000
theorem rd0_back (keep : Bool) (c : Chg) (hf : c.fine = true) (hs : c.s < 65536) (hi : c.i < 65536) (rest : List UInt8) : Chg.rd0 keep ⟨0, chB c ++ rest⟩ = c ∧ Chg.rd1 keep ⟨0, chB c ++ rest⟩ = ⟨0, rest⟩ := by
  have hff := hf
  obtain ⟨hk, ha, hb0, hb⟩ := Chg.fine_iff hf
  obtain ⟨k, a, b, s, i⟩ := c
  dsimp only at hs hi hk ha hb0 hb
  have hb16 : b ≤ 16 := Int.le_trans hb (by unfold mostB; split <;> (try split) <;> (try split) <;> omega)
  obtain ⟨k, rfl⟩ := Int.eq_ofNat_of_zero_le (show 0 ≤ k by omega)
  obtain ⟨a, rfl⟩ := Int.eq_ofNat_of_zero_le ha.1
  obtain ⟨b, rfl⟩ := Int.eq_ofNat_of_zero_le hb0
  have hw : chB ⟨k, a, b, s, i⟩ ++ rest = numB k 1 ++ (numB a 1 ++ (numB b 1 ++ (numB s 2 ++ (numB i 2 ++ rest)))) := by
    show (numB k 1 ++ numB a 1 ++ numB b 1 ++ numB s 2 ++ numB i 2) ++ rest = _
    simp only [List.append_assoc]
  obtain ⟨a1, b1⟩ := num_back keep k 1 255 (numB a 1 ++ (numB b 1 ++ (numB s 2 ++ (numB i 2 ++ rest)))) (by omega) (by omega) (by omega)
  obtain ⟨a2, b2⟩ := num_back keep a 1 255 (numB b 1 ++ (numB s 2 ++ (numB i 2 ++ rest))) (by omega) (by omega) (by omega)
  obtain ⟨a3, b3⟩ := num_back keep b 1 255 (numB s 2 ++ (numB i 2 ++ rest)) (by omega) (by omega) (by omega)
  obtain ⟨a4, b4⟩ := num_back keep s 2 65535 (numB i 2 ++ rest) (by omega) (by omega) (by omega)
  obtain ⟨a5, b5⟩ := num_back keep i 2 65535 rest (by omega) (by omega) (by omega)
  have a1 : St.num keep ⟨0, _⟩ (1 : Int) 255 = _ := a1
  have b1 : St.nv ⟨0, _⟩ (1 : Int) 255 = _ := b1
  have a2 : St.num keep ⟨0, _⟩ (1 : Int) 255 = _ := a2
  have b2 : St.nv ⟨0, _⟩ (1 : Int) 255 = _ := b2
  have a3 : St.num keep ⟨0, _⟩ (1 : Int) 255 = _ := a3
  have b3 : St.nv ⟨0, _⟩ (1 : Int) 255 = _ := b3
  have a4 : St.num keep ⟨0, _⟩ (2 : Int) 65535 = _ := a4
  have b4 : St.nv ⟨0, _⟩ (2 : Int) 65535 = _ := b4
  have a5 : St.num keep ⟨0, _⟩ (2 : Int) 65535 = _ := a5
  have b5 : St.nv ⟨0, _⟩ (2 : Int) 65535 = _ := b5
  have h0 : Chg.rd0 keep ⟨0, chB ⟨k, a, b, s, i⟩ ++ rest⟩ = ⟨k, a, b, s, i⟩ := by
    rw [hw]
    unfold Chg.rd0 St.k3
    rw [a1, b1, a2, b2, a3, b3, a4, b4, b5]
    rfl
  refine ⟨h0, ?_⟩
  unfold Chg.rd1
  rw [h0, if_pos hff, hw]
  unfold St.k5 St.k3
  rw [a1, a2, a3, a4, a5]
theorem rdGo_back (keep : Bool) (rest : List UInt8) : ∀ (l o : List Chg), (∀ c ∈ l, c.fine = true) → (∀ c ∈ l, c.s < 65536 ∧ c.i < 65536) → rdGo keep l.length o ⟨0, l.flatMap chB ++ rest⟩ = (o ++ l, ⟨0, rest⟩)
  | [], o, _, _ => by
    rw [List.append_nil]; rfl
  | c :: l, o, hf, hc => by
    obtain ⟨h1, h2⟩ := hc c (by simp)
    obtain ⟨a1, a2⟩ := rd0_back keep c (hf c (by simp)) h1 h2 (l.flatMap chB ++ rest)
    rw [List.flatMap_cons, List.append_assoc, List.length_cons, rdGo_go rfl, a1, a2, rdGo_back keep rest l _ (fun x hx => hf x (by simp [hx])) (fun x hx => hc x (by simp [hx]))]
    simp
theorem rdC_back (keep : Bool) (rest : List UInt8) (l : List Chg) (h1 : 1 ≤ l.length) (h6 : l.length ≤ 6) (hf : ∀ c ∈ l, c.fine = true) (hc : ∀ c ∈ l, c.s < 65536 ∧ c.i < 65536) : rdC keep ⟨0, bytesC l ++ rest⟩ = (l, ⟨0, rest⟩) := by
  have hw : bytesC l ++ rest = numB l.length 1 ++ (l.flatMap chB ++ rest) := by
    unfold bytesC chsB
    rw [List.append_assoc]
  obtain ⟨a1, b1⟩ := num_back keep l.length 1 255 (l.flatMap chB ++ rest) (by omega) (by omega) (by omega)
  have a1 : St.num keep ⟨0, _⟩ (1 : Int) 255 = _ := a1
  have b1 : St.nv ⟨0, _⟩ (1 : Int) 255 = _ := b1
  have hall : rdAll keep ⟨0, bytesC l ++ rest⟩ = (l, ⟨0, rest⟩) := by
    unfold rdAll rdHd
    rw [hw, b1, if_pos (by omega), a1, Int.toNat_natCast, rdGo_back keep rest l [] hf hc]
    rfl
  unfold rdC
  rw [hall]
  rfl
theorem goQ_ok : ∀ (l : List Chg) (p : Pol) (n : Nat), p.Ok → (∀ c ∈ l, c.s < 65536 ∧ c.i < 65536) → (goQ p l n).1.Ok ∧ (fineP p = true → (goQ p l n).2.2 = 0 → fineP (goQ p l n).1 = true)
  | [], p, n, hp, _ => ⟨hp, fun h _ => h⟩
  | c :: l, p, n, hp, hc => by
    obtain ⟨h1, h2⟩ := hc c (by simp)
    obtain ⟨a1, a2⟩ := oneQ_ok hp h1 h2
    have hd : goQ p (c :: l) n = if (oneQ p c).2 = 0 then goQ (oneQ p c).1 l (n + 1) else (zeroP, n, (oneQ p c).2) := rfl
    rw [hd]
    by_cases he : (oneQ p c).2 = 0
    · rw [if_pos he]
      obtain ⟨b1, b2⟩ := goQ_ok l (oneQ p c).1 (n + 1) a1 (fun x hx => hc x (by simp [hx]))
      exact ⟨b1, fun h h' => b2 (a2 h he) h'⟩
    · rw [if_neg he]
      exact ⟨zero_ok, fun _ h' => absurd h' he⟩
theorem allQ_ok {l : List Chg} {p : Pol} (hp : p.Ok) (hc : ∀ c ∈ l, c.s < 65536 ∧ c.i < 65536) : (allQ p l).1.Ok ∧ (fineP p = true → (allQ p l).2.2 = 0 → fineP (allQ p l).1 = true) := by
  unfold allQ
  split
  · exact ⟨zero_ok, fun _ h => absurd (show (1 : Int) = 0 from h) (by decide)⟩
  · split
    · exact ⟨zero_ok, fun _ h => absurd (show (5 : Int) = 0 from h) (by decide)⟩
    · exact goQ_ok l p 0 hp hc
/-! ### The calls at the end -/
def l0 : Chg := ⟨1, 1, 0, 0, 0⟩
def l1 : Chg := ⟨3, 1, 0, 0, 0⟩
def l2 : Chg := ⟨6, 3, 4, 0, 0⟩
theorem kk_all : (allQ firstP [l0, l1, l2]).2 = (3, 0) := by kernel_rfl
theorem kk_caps : capsN (allQ firstP [l0, l1, l2]).1 1 65535 0 = 65527 := by kernel_rfl
theorem kk_li : (allQ firstP [l0, l1, l2]).1.li 0 = 65527 := by kernel_rfl
theorem kk_bad : (allQ firstP [l0, l0]).2 = (1, 7) := by kernel_rfl
theorem kk_one : (oneQ firstP ⟨7, 0, 0, 0, 0⟩).2 = 3 := by kernel_rfl
theorem kk_map : mapC [l0, l1, l2] 3 = 4 := by kernel_rfl
theorem kk_fine : ∀ c ∈ [l0, l1, l2], c.fine = true := by decide +kernel
theorem kk_lt : ∀ c ∈ [l0, l1, l2], c.s < 65536 ∧ c.i < 65536 := by decide +kernel
theorem kk_lt0 : ∀ c ∈ [l0, l0], c.s < 65536 ∧ c.i < 65536 := by decide +kernel
theorem callK_pkC {P : Program} {G : Gl} {g : FuncId} {args args' : List AV} {H : Hp} {v : AV} {k : AV → Hp → Prop} (hf : freezeAs H args = some (true, args', H)) (h : EvP P G g args' v) (hk : k v H) : CallK P G true true g [] args H k := ⟨rfl, rfl, args', hf, v, h, hk⟩
set_option maxHeartbeats 8000000 in
theorem L13_alive_ok : EvP PR G f_L13_alive [] (bv true) := by
  have cF := policy_First_ok
  have c1 := change_All_ok firstP first_ok [l0, l1, l2] (by decide) kk_lt
  have hq := (allQ_ok first_ok kk_lt).1
  have c2 := change_All_ok firstP first_ok [l0, l0] (by decide) kk_lt0
  have c3 := change_All_ok firstP first_ok [] (by decide) (fun c h => absurd h (by simp))
  have c4 := change_One_ok firstP first_ok ⟨7, 0, 0, 0, 0⟩ (by decide) (by decide)
  have cC := policy_Caps_ok (allQ firstP [l0, l1, l2]).1 hq 1 65535 0 (by omega) (by omega)
  rw [kk_caps] at cC
  have hli := kk_li
  have cM := change_Map_ok [l0, l1, l2] (by decide)
  have hM := kk_map
  have cB := change_Bytes_ok [l0, l1, l2] (by decide) kk_fine kk_lt
  have cN := pr_new (bytesC [l0, l1, l2])
  have cR := change_Read_ok (St.mk 0 (bytesC [l0, l1, l2]))
  have hb := rdC_back true [] [l0, l1, l2] (by decide) (by decide) kk_fine kk_lt
  rw [List.append_nil] at hb
  rw [hb] at cR
  dsimp only at cR
  have cE := pr_err (St.mk 0 [])
  have cS := R13_Same_ok [l0, l1, l2] [l0, l1, l2] (by decide) (by decide)
  rw [show sameC [l0, l1, l2] [l0, l1, l2] = true from decide_eq_true rfl] at cS
  have cG := change_Fine_ok l2
  rw [kk_fine l2 (by simp)] at cG
  unfold resA at c1 c2
  rw [kk_all] at c1
  rw [kk_bad] at c2
  unfold resQ at c4
  rw [kk_one] at c4
  have cT := label_Top_ok
  generalize (allQ firstP [l0, l1, l2]).1 = q at *
  generalize (allQ firstP [l0, l0]).1 = q2 at *
  generalize (oneQ firstP ⟨7, 0, 0, 0, 0⟩).1 = q4 at *
  generalize bytesC [l0, l1, l2] = B at *
  generalize mapC [l0, l1, l2] = M at *
  unfold mv mrow at cM
  rw [hM] at cM
  have hld : decide ((q.li 0 : Int) = 65527) = true := decide_eq_true (by omega)
  clear hb hM hli hq
  refine EvP.of_wpf false hm c_L13_alive rfl ?_
  refine wpf_seq1 ?_
  conv => whnf
  repeat' ((first | refine brP_t (by assumption) ?_ | refine brP_f (by assumption) ?_ | refine brP_t (decide_eq_true (by omega)) ?_ | refine brP_f (decide_eq_false (by omega)) ?_ | refine brP_t (nd_t (by omega)) ?_ | refine brP_f (nd_f (by omega)) ?_ | refine wpfS_seq1 ?_ | refine wpfS_go ?_ | fail) <;> conv => whnf)
  (first | refine callK_p cF ?_ | refine callM_p cF rfl ?_ | refine callK_pf rfl cF ?_ | refine callK_pk rfl cF ?_)
  conv => whnf
  repeat' ((first | refine brP_t (by assumption) ?_ | refine brP_f (by assumption) ?_ | refine brP_t (decide_eq_true (by omega)) ?_ | refine brP_f (decide_eq_false (by omega)) ?_ | refine brP_t (nd_t (by omega)) ?_ | refine brP_f (nd_f (by omega)) ?_ | refine wpfS_seq1 ?_ | refine wpfS_go ?_ | fail) <;> conv => whnf)
  (first | refine callK_p c1 ?_ | refine callM_p c1 rfl ?_ | refine callK_pf rfl c1 ?_ | refine callK_pk rfl c1 ?_)
  conv => whnf
  repeat' ((first | refine brP_t (by assumption) ?_ | refine brP_f (by assumption) ?_ | refine brP_t (decide_eq_true (by omega)) ?_ | refine brP_f (decide_eq_false (by omega)) ?_ | refine brP_t (nd_t (by omega)) ?_ | refine brP_f (nd_f (by omega)) ?_ | refine wpfS_seq1 ?_ | refine wpfS_go ?_ | fail) <;> conv => whnf)
  (first | refine callK_p cF ?_ | refine callM_p cF rfl ?_ | refine callK_pf rfl cF ?_ | refine callK_pk rfl cF ?_)
  conv => whnf
  repeat' ((first | refine brP_t (by assumption) ?_ | refine brP_f (by assumption) ?_ | refine brP_t (decide_eq_true (by omega)) ?_ | refine brP_f (decide_eq_false (by omega)) ?_ | refine brP_t (nd_t (by omega)) ?_ | refine brP_f (nd_f (by omega)) ?_ | refine wpfS_seq1 ?_ | refine wpfS_go ?_ | fail) <;> conv => whnf)
  (first | refine callK_p c2 ?_ | refine callM_p c2 rfl ?_ | refine callK_pf rfl c2 ?_ | refine callK_pk rfl c2 ?_)
  conv => whnf
  repeat' ((first | refine brP_t (by assumption) ?_ | refine brP_f (by assumption) ?_ | refine brP_t (decide_eq_true (by omega)) ?_ | refine brP_f (decide_eq_false (by omega)) ?_ | refine brP_t (nd_t (by omega)) ?_ | refine brP_f (nd_f (by omega)) ?_ | refine wpfS_seq1 ?_ | refine wpfS_go ?_ | fail) <;> conv => whnf)
  (first | refine callK_p cF ?_ | refine callM_p cF rfl ?_ | refine callK_pf rfl cF ?_ | refine callK_pk rfl cF ?_)
  conv => whnf
  repeat' ((first | refine brP_t (by assumption) ?_ | refine brP_f (by assumption) ?_ | refine brP_t (decide_eq_true (by omega)) ?_ | refine brP_f (decide_eq_false (by omega)) ?_ | refine brP_t (nd_t (by omega)) ?_ | refine brP_f (nd_f (by omega)) ?_ | refine wpfS_seq1 ?_ | refine wpfS_go ?_ | fail) <;> conv => whnf)
  (first | refine callK_p c3 ?_ | refine callM_p c3 rfl ?_ | refine callK_pf rfl c3 ?_ | refine callK_pk rfl c3 ?_)
  conv => whnf
  repeat' ((first | refine brP_t (by assumption) ?_ | refine brP_f (by assumption) ?_ | refine brP_t (decide_eq_true (by omega)) ?_ | refine brP_f (decide_eq_false (by omega)) ?_ | refine brP_t (nd_t (by omega)) ?_ | refine brP_f (nd_f (by omega)) ?_ | refine wpfS_seq1 ?_ | refine wpfS_go ?_ | fail) <;> conv => whnf)
  (first | refine callK_p cF ?_ | refine callM_p cF rfl ?_ | refine callK_pf rfl cF ?_ | refine callK_pk rfl cF ?_)
  conv => whnf
  repeat' ((first | refine brP_t (by assumption) ?_ | refine brP_f (by assumption) ?_ | refine brP_t (decide_eq_true (by omega)) ?_ | refine brP_f (decide_eq_false (by omega)) ?_ | refine brP_t (nd_t (by omega)) ?_ | refine brP_f (nd_f (by omega)) ?_ | refine wpfS_seq1 ?_ | refine wpfS_go ?_ | fail) <;> conv => whnf)
  (first | refine callK_p c4 ?_ | refine callM_p c4 rfl ?_ | refine callK_pf rfl c4 ?_ | refine callK_pk rfl c4 ?_)
  conv => whnf
  repeat' ((first | refine brP_t (by assumption) ?_ | refine brP_f (by assumption) ?_ | refine brP_t (decide_eq_true (by omega)) ?_ | refine brP_f (decide_eq_false (by omega)) ?_ | refine brP_t (nd_t (by omega)) ?_ | refine brP_f (nd_f (by omega)) ?_ | refine wpfS_seq1 ?_ | refine wpfS_go ?_ | fail) <;> conv => whnf)
  (first | refine callK_p cB ?_ | refine callM_p cB rfl ?_ | refine callK_pf rfl cB ?_ | refine callK_pk rfl cB ?_)
  conv => whnf
  repeat' ((first | refine brP_t (by assumption) ?_ | refine brP_f (by assumption) ?_ | refine brP_t (decide_eq_true (by omega)) ?_ | refine brP_f (decide_eq_false (by omega)) ?_ | refine brP_t (nd_t (by omega)) ?_ | refine brP_f (nd_f (by omega)) ?_ | refine wpfS_seq1 ?_ | refine wpfS_go ?_ | fail) <;> conv => whnf)
  (first | refine callK_r (EvR.fr [] cN rfl rfl trivial rfl) ?_ | refine callM_l (LEv.fr [] cN rfl rfl trivial rfl rfl) ?_ | refine callK_rt (EvR.fr [] cN rfl rfl trivial rfl) ?_ | refine callK_rf rfl (EvR.fr [] cN rfl rfl trivial rfl) ?_ | refine callK_rft rfl (EvR.fr [] cN rfl rfl trivial rfl) ?_)
  conv => whnf
  repeat' ((first | refine brP_t (by assumption) ?_ | refine brP_f (by assumption) ?_ | refine brP_t (decide_eq_true (by omega)) ?_ | refine brP_f (decide_eq_false (by omega)) ?_ | refine brP_t (nd_t (by omega)) ?_ | refine brP_f (nd_f (by omega)) ?_ | refine wpfS_seq1 ?_ | refine wpfS_go ?_ | fail) <;> conv => whnf)
  (first | refine callK_r (EvR.fr [_] cR rfl rfl ⟨rfl, trivial⟩ rfl) ?_ | refine callM_l (LEv.fr [_] cR rfl rfl ⟨rfl, trivial⟩ rfl rfl) ?_ | refine callK_rt (EvR.fr [_] cR rfl rfl ⟨rfl, trivial⟩ rfl) ?_ | refine callK_rf rfl (EvR.fr [_] cR rfl rfl ⟨rfl, trivial⟩ rfl) ?_ | refine callK_rft rfl (EvR.fr [_] cR rfl rfl ⟨rfl, trivial⟩ rfl) ?_)
  conv => whnf
  repeat' ((first | refine brP_t (by assumption) ?_ | refine brP_f (by assumption) ?_ | refine brP_t (decide_eq_true (by omega)) ?_ | refine brP_f (decide_eq_false (by omega)) ?_ | refine brP_t (nd_t (by omega)) ?_ | refine brP_f (nd_f (by omega)) ?_ | refine wpfS_seq1 ?_ | refine wpfS_go ?_ | fail) <;> conv => whnf)
  (first | refine callK_p cT ?_ | refine callM_p cT rfl ?_ | refine callK_pf rfl cT ?_ | refine callK_pk rfl cT ?_)
  conv => whnf
  repeat' ((first | refine brP_t (by assumption) ?_ | refine brP_f (by assumption) ?_ | refine brP_t (decide_eq_true (by omega)) ?_ | refine brP_f (decide_eq_false (by omega)) ?_ | refine brP_t (nd_t (by omega)) ?_ | refine brP_f (nd_f (by omega)) ?_ | refine wpfS_seq1 ?_ | refine wpfS_go ?_ | fail) <;> conv => whnf)
  (first | refine callK_p cC ?_ | refine callM_p cC rfl ?_ | refine callK_pf rfl cC ?_ | refine callK_pk rfl cC ?_)
  conv => whnf
  repeat' ((first | refine brP_t (by assumption) ?_ | refine brP_f (by assumption) ?_ | refine brP_t (decide_eq_true (by omega)) ?_ | refine brP_f (decide_eq_false (by omega)) ?_ | refine brP_t (nd_t (by omega)) ?_ | refine brP_f (nd_f (by omega)) ?_ | refine wpfS_seq1 ?_ | refine wpfS_go ?_ | fail) <;> conv => whnf)
  (first | refine callK_pkC rfl cM ?_)
  conv => whnf
  repeat' ((first | refine brP_t (by assumption) ?_ | refine brP_f (by assumption) ?_ | refine brP_t (decide_eq_true (by omega)) ?_ | refine brP_f (decide_eq_false (by omega)) ?_ | refine brP_t (nd_t (by omega)) ?_ | refine brP_f (nd_f (by omega)) ?_ | refine wpfS_seq1 ?_ | refine wpfS_go ?_ | fail) <;> conv => whnf)
  (first | refine callK_pkC rfl cS ?_)
  conv => whnf
  repeat' ((first | refine brP_t (by assumption) ?_ | refine brP_f (by assumption) ?_ | refine brP_t (decide_eq_true (by omega)) ?_ | refine brP_f (decide_eq_false (by omega)) ?_ | refine brP_t (nd_t (by omega)) ?_ | refine brP_f (nd_f (by omega)) ?_ | refine wpfS_seq1 ?_ | refine wpfS_go ?_ | fail) <;> conv => whnf)
  (first | refine callK_r (EvR.fr [_] cE rfl rfl ⟨rfl, trivial⟩ rfl) ?_ | refine callM_l (LEv.fr [_] cE rfl rfl ⟨rfl, trivial⟩ rfl rfl) ?_ | refine callK_rt (EvR.fr [_] cE rfl rfl ⟨rfl, trivial⟩ rfl) ?_ | refine callK_rf rfl (EvR.fr [_] cE rfl rfl ⟨rfl, trivial⟩ rfl) ?_ | refine callK_rft rfl (EvR.fr [_] cE rfl rfl ⟨rfl, trivial⟩ rfl) ?_)
  conv => whnf
  repeat' ((first | refine brP_t (by assumption) ?_ | refine brP_f (by assumption) ?_ | refine brP_t (decide_eq_true (by omega)) ?_ | refine brP_f (decide_eq_false (by omega)) ?_ | refine brP_t (nd_t (by omega)) ?_ | refine brP_f (nd_f (by omega)) ?_ | refine wpfS_seq1 ?_ | refine wpfS_go ?_ | fail) <;> conv => whnf)
  (first | refine callK_p cG ?_ | refine callM_p cG rfl ?_ | refine callK_pf rfl cG ?_ | refine callK_pk rfl cG ?_)
  conv => whnf
  repeat' ((first | refine brP_t (by assumption) ?_ | refine brP_f (by assumption) ?_ | refine brP_t (decide_eq_true (by omega)) ?_ | refine brP_f (decide_eq_false (by omega)) ?_ | refine brP_t (nd_t (by omega)) ?_ | refine brP_f (nd_f (by omega)) ?_ | refine wpfS_seq1 ?_ | refine wpfS_go ?_ | fail) <;> conv => whnf)
  rw [hld]
  rfl
end Go.Ab.S
