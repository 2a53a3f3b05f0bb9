/- Part of a proof; no condition. -/
import Derived.Test.YtjdkjlmcnpjohaaDoorPolP12
set_option linter.unusedSimpArgs false
set_option linter.unusedVariables false
namespace Go.Ab.S
open Go Go.Ab Go.Proofs
attribute [local irreducible] SemS
set_option maxRecDepth 100000
/-! ### Policies that are read -/
def recRd (keep : Bool) (q : Pol × St) (r : Nat) : Pol × St :=
  (setAct (setLab q.1 r (q.2.nv 2 65535).toNat ((q.2.num keep 2 65535).nv 2 65535).toNat) r (((q.2.num keep 2 65535).num keep 2 65535).nv 2 65535).toNat, ((q.2.num keep 2 65535).num keep 2 65535).num keep 2 65535)
def ownRd (keep : Bool) (q : Pol × St) (t : Nat) : Pol × St := (setOwn q.1 t (q.2.nv 1 16).toNat, q.2.num keep 1 16)
def setLive (p : Pol) (n : Nat) : Pol := { p with live := n }
def setActive (p : Pol) (n : Nat) : Pol := { p with active := n }
def rolesRd (keep : Bool) (s : St) : Pol × St := (bitsN (s.nv 2 65535).toNat).foldl (recRd keep) (setLive zeroP (s.nv 2 65535).toNat, s.num keep 2 65535)
def tagsRd (keep : Bool) (s : St) : Pol × St := (List.range 16).foldl (ownRd keep) (setActive (rolesRd keep s).1 ((rolesRd keep s).2.nv 2 65535).toNat, (rolesRd keep s).2.num keep 2 65535)
def chkRd (q : Pol × St) : St := if q.2.e = 0 ∧ fineP q.1 = false then q.2.fail 3 else q.2
def polRd (keep : Bool) (s : St) : Pol × St := if (chkRd (tagsRd keep s)).e = 0 then ((tagsRd keep s).1, chkRd (tagsRd keep s)) else (zeroP, chkRd (tagsRd keep s))
theorem put_ls (p : Pol) {r : Nat} (h : r < 16) (s : Nat) : putAt p.row (0 + 1 + r * 2 + 0) [.int .u16 s] = ({ p with ls := updF p.ls r s } : Pol).row := by
  rcases cases16 h with rfl | rfl | rfl | rfl | rfl | rfl | rfl | rfl | rfl | rfl | rfl | rfl | rfl | rfl | rfl | rfl <;> rfl
theorem put_li (p : Pol) {r : Nat} (h : r < 16) (s : Nat) : putAt p.row (0 + 1 + r * 2 + 1) [.int .u16 s] = ({ p with li := updF p.li r s } : Pol).row := by
  rcases cases16 h with rfl | rfl | rfl | rfl | rfl | rfl | rfl | rfl | rfl | rfl | rfl | rfl | rfl | rfl | rfl | rfl <;> rfl
theorem nv16_lt {s : St} {size : Int} : (s.nv size 65535).toNat < 65536 := by
  have := nv_range (s := s) (size := size) (most := 65535) (by omega); omega
theorem nvo_le {s : St} {size : Int} : (s.nv size 16).toNat ≤ 16 := by
  have := nv_range (s := s) (size := size) (most := 16) (by omega); omega
theorem zero_ok : zeroP.Ok :=
  have h : 0 < 65536 := by omega
  ⟨h, fun _ _ => h, fun _ _ => h, fun _ _ => h, fun _ _ => Nat.zero_le _, h⟩
theorem upd_all {P : Nat → Prop} {f : Nat → Nat} {r v : Nat} (hv : P v) (hf : ∀ i, i < 16 → P (f i)) : ∀ i, i < 16 → P (updF f r v i) := fun i hi => by
  unfold updF; split
  · exact hv
  · exact hf i hi
theorem recRd_ok {keep : Bool} {q : Pol × St} {r : Nat} (h : q.1.Ok) : (recRd keep q r).1.Ok :=
  ⟨h.live, upd_all (P := fun v => v < 65536) nv16_lt h.ls, upd_all (P := fun v => v < 65536) nv16_lt h.li, upd_all (P := fun v => v < 65536) nv16_lt h.acts, h.own, h.active⟩
theorem rolesRd_live {keep : Bool} : ∀ (l : List Nat) (q : Pol × St), (l.foldl (recRd keep) q).1.live = q.1.live
  | [], _ => rfl
  | r :: l, q => by rw [List.foldl_cons, rolesRd_live l]; rfl
theorem rolesF_ok {keep : Bool} : ∀ (l : List Nat) {q : Pol × St}, q.1.Ok → (l.foldl (recRd keep) q).1.Ok
  | [], _, h => h
  | r :: l, _, h => rolesF_ok l (recRd_ok h)
theorem recF_suf {B : List UInt8} {keep : Bool} : ∀ (l : List Nat) {q : Pol × St}, Suf B q.2.b → Suf B (l.foldl (recRd keep) q).2.b
  | [], _, h => h
  | r :: l, _, h => recF_suf l (((h.num keep 2 65535).num keep 2 65535).num keep 2 65535)
theorem ownRd_ok {keep : Bool} {q : Pol × St} {r : Nat} (h : q.1.Ok) : (ownRd keep q r).1.Ok :=
  ⟨h.live, h.ls, h.li, h.acts, upd_all (P := fun v => v ≤ 255) (Nat.le_trans nvo_le (by omega)) h.own, h.active⟩
theorem ownF_ok {keep : Bool} : ∀ (l : List Nat) {q : Pol × St}, q.1.Ok → (l.foldl (ownRd keep) q).1.Ok
  | [], _, h => h
  | r :: l, _, h => ownF_ok l (ownRd_ok h)
theorem ownF_suf {B : List UInt8} {keep : Bool} : ∀ (l : List Nat) {q : Pol × St}, Suf B q.2.b → Suf B (l.foldl (ownRd keep) q).2.b
  | [], _, h => h
  | r :: l, _, h => ownF_suf l (h.num keep 1 16)
theorem rolesRd_ok {keep : Bool} {s : St} : (rolesRd keep s).1.Ok := rolesF_ok _ ⟨nv16_lt, zero_ok.ls, zero_ok.li, zero_ok.acts, zero_ok.own, zero_ok.active⟩
theorem tagsRd_ok {keep : Bool} {s : St} : (tagsRd keep s).1.Ok := ownF_ok _ ⟨rolesRd_ok.live, rolesRd_ok.ls, rolesRd_ok.li, rolesRd_ok.acts, rolesRd_ok.own, nv16_lt⟩
theorem polRd_ok {keep : Bool} {s : St} : (polRd keep s).1.Ok := by
  unfold polRd; split
  · exact tagsRd_ok
  · exact zero_ok
theorem chk_suf {B : List UInt8} {q : Pol × St} (h : Suf B q.2.b) : Suf B (chkRd q).b := by
  unfold chkRd; split <;> exact h
theorem tags_suf {B : List UInt8} {keep : Bool} {s : St} (h : Suf B s.b) : Suf B (tagsRd keep s).2.b := ownF_suf _ ((recF_suf _ (h.num keep 2 65535)).num keep 2 65535)
theorem polRd_suf {B : List UInt8} {keep : Bool} {s : St} (h : Suf B s.b) : Suf B (polRd keep s).2.b := by
  unfold polRd; split <;> exact chk_suf (tags_suf h)
/-- The program's way to a number. -/
theorem set_ok (s : St) : EvR PR G f_policy_Read_1 [.c (.ptr (.par 1) 0)] ⟨s.pr ++ [.mrow [.ptr (.par 0) 0]], []⟩ (uv ((s.nv 2 65535).toNat : Int)) ⟨(s.num true 2 65535).pr ++ [.mrow [.ptr (.par 0) 0]], []⟩ := by
  have c0 := pr_num s 2 65535 (by omega)
  have hw := nv_u16 (s := s) (size := 2)
  generalize s.num true 2 65535 = s1 at *
  refine EvR.of_wpfC false true hm c_policy_Read_1 rfl rfl ?_
  refine wpf_seq1 ?_
  conv => whnf
  repeat' ((first | refine brP_t (by assumption) ?_ | refine brP_f (by assumption) ?_ | refine brP_t (decide_eq_true (by omega)) ?_ | refine brP_f (decide_eq_false (by omega)) ?_ | refine brP_t (nd_t (by omega)) ?_ | refine brP_f (nd_f (by omega)) ?_ | refine callK_r (EvR.fr [_] c0 rfl rfl ⟨rfl, trivial⟩ rfl) ?_ | refine callM_l (LEv.fr [_] c0 rfl rfl ⟨rfl, trivial⟩ rfl rfl) ?_ | refine callK_rt (EvR.fr [_] c0 rfl rfl ⟨rfl, trivial⟩ rfl) ?_ | refine callK_rf rfl (EvR.fr [_] c0 rfl rfl ⟨rfl, trivial⟩ rfl) ?_ | refine callK_rft rfl (EvR.fr [_] c0 rfl rfl ⟨rfl, trivial⟩ rfl) ?_ | ((rw [hw])) | refine wpfS_seq1 ?_ | refine wpfS_go ?_ | fail) <;> conv => whnf)
  exact ⟨rfl, rfl⟩
end Go.Ab.S
