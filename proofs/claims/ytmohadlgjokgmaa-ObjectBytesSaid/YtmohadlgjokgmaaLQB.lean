/- Objects: both readers alike; what is written is read back. No condition. -/
import Derived.Test.YtmohadlgjokgmaaLQA
set_option linter.unusedSimpArgs false
set_option linter.unusedVariables false
namespace Go.Ab.S
open Go Go.Ab Go.Proofs
attribute [local irreducible] SemS
set_option maxRecDepth 100000
theorem Ob.rdB_same {s s' : St} (k : Int) (h : SameS s s') : (Ob.rdB true k s).1 = (Ob.rdB false k s').1 ∧ SameS (Ob.rdB true k s).2 (Ob.rdB false k s').2 := by
  unfold Ob.rdB
  by_cases hk : k = 2
  · rw [if_pos hk, if_pos hk]; exact Bx.rd_same h
  · rw [if_neg hk, if_neg hk]; exact ⟨rfl, h⟩
theorem Ob.rd_same {s s' : St} (h : SameS s s') : (Ob.rd true s).1 = (Ob.rd false s').1 ∧ SameS (Ob.rd true s).2 (Ob.rd false s').2 := by
  obtain ⟨e0, k0⟩ := Idn.rd_same h
  have n1 := k0.nv 2 65535
  have k1 := k0.num 2 65535
  have n2 := k1.nv 2 65535
  have k2 := k1.num 2 65535
  have n3 := k2.nv 1 255
  have k3 := k2.num 1 255
  have n4 := k3.nv 1 3
  have k4 := k3.num 1 3
  have n5 := k4.nv 2 65535
  have k5 := k4.num 2 65535
  have n6 := k5.nv 2 65535
  have k6 := k5.num 2 65535
  have n7 := k6.nv 1 15
  have k7 := k6.num 1 15
  have n8 := k7.tv 64
  have k8 := k7.txt 64
  obtain ⟨e9, k9⟩ := Ob.rdB_same (Idn.rd false s').1.k k8
  have hb : (Ob.rd0 true s).1 = (Ob.rd0 false s').1 := by
    show Ob.mk _ _ _ _ _ _ _ _ _ _ _ _ _ _ = Ob.mk _ _ _ _ _ _ _ _ _ _ _ _ _ _
    rw [e0, n1, n2, n3, n4, n5, n6, n7, n8, e9]
  have hs : SameS (Ob.rd0 true s).2 (Ob.rd0 false s').2 := by
    show SameS (Ob.rdB true (Idn.rd true s).1.k _).2 _
    rw [e0]
    exact k9
  unfold Ob.rd Ob.chk
  rw [← hs.e, ← hb]
  by_cases he : (Ob.rd0 true s).2.e = 0
  · rw [if_pos he, if_pos he]
    by_cases hf : (Ob.rd0 true s).1.fine = true
    · rw [if_pos hf, if_pos hf]; exact ⟨hb, hs⟩
    · rw [if_neg hf, if_neg hf]; exact ⟨rfl, rfl, fun h => absurd (show (3 : Int) = 0 from h) (by decide)⟩
  · rw [if_neg he, if_neg he]; exact ⟨rfl, hs⟩
theorem Ob.rd_suf {B : List UInt8} {s : St} (h : Suf B s.b) : Suf B (Ob.rd false s).2.b := by
  have h8 := (((((((((Idn.rd_suf h).num false 2 65535).num false 2 65535).num false 1 255).num false 1 3).num false 2 65535).num false 2 65535).num false 1 15)).txt false 64
  have hs : Suf B (Ob.rd0 false s).2.b := by
    show Suf B (Ob.rdB false _ _).2.b
    unfold Ob.rdB
    split
    · exact Bx.rd_suf h8
    · exact h8
  unfold Ob.rd Ob.chk
  split
  · split
    · exact hs
    · exact hs
  · exact hs
theorem Ob.rd_lim (keep : Bool) (s : St) : (Ob.rd keep s).1.Lim := by
  have hl : (Ob.rd0 keep s).1.Lim := by
    refine ⟨?_, tv_len _ 64 (by omega)⟩
    show (Ob.rdB keep _ _).1.len < _
    unfold Ob.rdB
    split
    · exact Nat.lt_of_le_of_lt (Bx.rd_len keep _) (by decide)
    · show (0 : Nat) < 2 ^ 61; decide
  unfold Ob.rd Ob.chk
  split
  · split
    · exact hl
    · exact ⟨by show (0 : Nat) < 2 ^ 61; decide, by show (0 : Nat) < 2 ^ 62; decide⟩
  · exact ⟨by show (0 : Nat) < 2 ^ 61; decide, by show (0 : Nat) < 2 ^ 62; decide⟩
theorem Ob.bytes_len {o : Ob} (h : o.Wr) : o.bytes.length ≤ 500 := by
  unfold Ob.bytes
  have hb := h.buf
  simp only [List.length_append, numB_len, Idn.bytes_len, textB_len]
  split
  · rename_i hk
    have := (h.bx hk).1.bytes_len
    omega
  · simp only [List.length_nil]; omega
theorem Ob.rd_back (keep : Bool) (o : Ob) (rest : List UInt8) (hf : o.fine = true) (ho : o.Ok) : Ob.rd keep ⟨0, o.bytes ++ rest⟩ = (o, ⟨0, rest⟩) := by
  have hfl := o.flags_lt
  have hw := Ob.wr_of hf ho
  obtain ⟨h1, h2, h3, h4, h5, h6, h7, h8, h9, h10, h11, h12⟩ := hw
  have hemp : ¬ o.k = 2 → o.bx = Bx.emp := fun hk => by
    have hf2 := hf
    unfold Ob.fine Ob.kindB at hf2
    simp only [Bool.and_eq_true] at hf2
    have h2 := hf2.2.2.2.2
    by_cases h1 : o.k = 1
    · rw [if_pos h1] at h2
      simp only [Bool.and_eq_true, decide_eq_true_eq] at h2
      exact h2.2.2.2.2
    · rw [if_neg h1, if_neg hk] at h2
      simp only [Bool.and_eq_true, decide_eq_true_eq] at h2
      exact h2.2.2.2
  have hrun : o.bytes ++ rest = o.idn.bytes ++ (numB o.ls 2 ++ (numB o.li 2 ++ (numB o.stamp.toNat 1 ++ (numB o.flags 1 ++ (numB o.ws 2 ++ (numB o.wi 2 ++ (numB o.role.toNat 1 ++ (textB o.buf ++ ((if o.k = 2 then o.bx.bytes else []) ++ rest))))))))) := by
    unfold Ob.bytes
    simp only [List.append_assoc]
  have hfe : o.flags = (if o.swept then 1 else 0) + (if o.dead then 2 else 0) := rfl
  have hx : (Ob.rdB keep o.k ⟨0, (if o.k = 2 then o.bx.bytes else []) ++ rest⟩) = (o.bx, ⟨0, rest⟩) := by
    unfold Ob.rdB
    by_cases hk : o.k = 2
    · rw [if_pos hk, if_pos hk]
      exact Bx.rd_back keep o.bx rest (h12 hk).1 (h12 hk).2
    · rw [if_neg hk, if_neg hk, hemp hk]; rfl
  rw [hrun]
  have d0 := Idn.rd_back keep o.idn (numB o.ls 2 ++ (numB o.li 2 ++ (numB o.stamp.toNat 1 ++ (numB o.flags 1 ++ (numB o.ws 2 ++ (numB o.wi 2 ++ (numB o.role.toNat 1 ++ (textB o.buf ++ ((if o.k = 2 then o.bx.bytes else []) ++ rest))))))))) h1 h2 h3 h4
  generalize (if o.k = 2 then o.bx.bytes else []) ++ rest = R at *
  have hst : ((o.stamp.toNat : Nat) : Int) = o.stamp := Int.toNat_of_nonneg h7.1
  have hro : ((o.role.toNat : Nat) : Int) = o.role := Int.toNat_of_nonneg h10.1
  obtain ⟨a1, b1⟩ := num_back keep o.ls 2 65535 (numB o.li 2 ++ (numB o.stamp.toNat 1 ++ (numB o.flags 1 ++ (numB o.ws 2 ++ (numB o.wi 2 ++ (numB o.role.toNat 1 ++ (textB o.buf ++ R))))))) (by omega) (by omega) (by omega)
  obtain ⟨a2, b2⟩ := num_back keep o.li 2 65535 (numB o.stamp.toNat 1 ++ (numB o.flags 1 ++ (numB o.ws 2 ++ (numB o.wi 2 ++ (numB o.role.toNat 1 ++ (textB o.buf ++ R)))))) (by omega) (by omega) (by omega)
  obtain ⟨a3, b3⟩ := num_back keep o.stamp.toNat 1 255 (numB o.flags 1 ++ (numB o.ws 2 ++ (numB o.wi 2 ++ (numB o.role.toNat 1 ++ (textB o.buf ++ R))))) (by omega) (by omega) (by omega)
  obtain ⟨a4, b4⟩ := num_back keep o.flags 1 3 (numB o.ws 2 ++ (numB o.wi 2 ++ (numB o.role.toNat 1 ++ (textB o.buf ++ R)))) (by omega) (by omega) (by omega)
  obtain ⟨a5, b5⟩ := num_back keep o.ws 2 65535 (numB o.wi 2 ++ (numB o.role.toNat 1 ++ (textB o.buf ++ R))) (by omega) (by omega) (by omega)
  obtain ⟨a6, b6⟩ := num_back keep o.wi 2 65535 (numB o.role.toNat 1 ++ (textB o.buf ++ R)) (by omega) (by omega) (by omega)
  obtain ⟨a7, b7⟩ := num_back keep o.role.toNat 1 15 (textB o.buf ++ R) (by omega) (by omega) (by omega)
  obtain ⟨a8, b8⟩ := txt_back keep o.buf R 64 (by omega) (by omega)
  have a1 : St.num keep ⟨0, _⟩ (2 : Int) 65535 = _ := a1
  have b1 : St.nv ⟨0, _⟩ (2 : Int) 65535 = _ := b1
  have a2 : St.num keep ⟨0, _⟩ (2 : Int) 65535 = _ := a2
  have b2 : St.nv ⟨0, _⟩ (2 : Int) 65535 = _ := b2
  have a3 : St.num keep ⟨0, _⟩ (1 : Int) 255 = _ := a3
  have b3 : St.nv ⟨0, _⟩ (1 : Int) 255 = _ := b3
  have a4 : St.num keep ⟨0, _⟩ (1 : Int) 3 = _ := a4
  have b4 : St.nv ⟨0, _⟩ (1 : Int) 3 = _ := b4
  have a5 : St.num keep ⟨0, _⟩ (2 : Int) 65535 = _ := a5
  have b5 : St.nv ⟨0, _⟩ (2 : Int) 65535 = _ := b5
  have a6 : St.num keep ⟨0, _⟩ (2 : Int) 65535 = _ := a6
  have b6 : St.nv ⟨0, _⟩ (2 : Int) 65535 = _ := b6
  have a7 : St.num keep ⟨0, _⟩ (1 : Int) 15 = _ := a7
  have b7 : St.nv ⟨0, _⟩ (1 : Int) 15 = _ := b7
  have hsw : decide ((o.flags : Int).tmod 2 = 1) = o.swept := by
    rw [hfe]; cases o.swept <;> cases o.dead <;> rfl
  have hde : decide (1 < (o.flags : Int)) = o.dead := by
    rw [hfe]; cases o.swept <;> cases o.dead <;> rfl
  have h0 : Ob.rd0 keep ⟨0, o.idn.bytes ++ (numB o.ls 2 ++ (numB o.li 2 ++ (numB o.stamp.toNat 1 ++ (numB o.flags 1 ++ (numB o.ws 2 ++ (numB o.wi 2 ++ (numB o.role.toNat 1 ++ (textB o.buf ++ R))))))))⟩ = (o, ⟨0, rest⟩) := by
    unfold Ob.rd0
    dsimp only
    rw [d0]
    dsimp only
    rw [a1, b1, a2, b2, a3, b3, a4, b4, a5, b5, a6, b6, a7, b7, a8, b8]
    rw [show o.idn.k = o.k from rfl, hx, hst, hro, hsw, hde]
    rfl
  unfold Ob.rd
  rw [h0]
  unfold Ob.chk
  dsimp only
  rw [if_pos rfl, if_pos hf]
end Go.Ab.S
