/- Part of a proof; no condition. -/
import Derived.Test.YtjdkjlmcnpjohaaDoorPolP26
set_option linter.unusedSimpArgs false
set_option linter.unusedVariables false
namespace Go.Ab.S
open Go Go.Ab Go.Proofs
/-! ### What was read is written again -/
theorem byteof_eq {n : Nat} {c : UInt8} (h : n % 256 = c.toNat) : UInt8.ofNat n = c := by
  refine UInt8.toNat_inj.1 ?_
  rw [UInt8.toNat_ofNat']
  exact h
theorem numB_valB {l : List UInt8} {k : Nat} (hk : 1 ≤ k ∧ k ≤ 4) (h : l.length = k) : numB (valB l) k = l := by
  have : k = 1 ∨ k = 2 ∨ k = 3 ∨ k = 4 := by omega
  rcases this with rfl | rfl | rfl | rfl
  · match l, h with
    | [a], _ =>
      have ha := a.toNat_lt
      show [UInt8.ofNat ((0 * 256 + a.toNat) / 256 ^ 0)] = [a]
      rw [byteof_eq (c := a) (by omega)]
  · match l, h with
    | [a, b], _ =>
      have ha := a.toNat_lt
      have hb := b.toNat_lt
      show [UInt8.ofNat (((0 * 256 + a.toNat) * 256 + b.toNat) / 256 ^ 1), UInt8.ofNat (((0 * 256 + a.toNat) * 256 + b.toNat) / 256 ^ 0)] = [a, b]
      rw [byteof_eq (c := a) (by omega), byteof_eq (c := b) (by omega)]
  · match l, h with
    | [a, b, c], _ =>
      have ha := a.toNat_lt
      have hb := b.toNat_lt
      have hc := c.toNat_lt
      show [UInt8.ofNat ((((0 * 256 + a.toNat) * 256 + b.toNat) * 256 + c.toNat) / 256 ^ 2), UInt8.ofNat ((((0 * 256 + a.toNat) * 256 + b.toNat) * 256 + c.toNat) / 256 ^ 1), UInt8.ofNat ((((0 * 256 + a.toNat) * 256 + b.toNat) * 256 + c.toNat) / 256 ^ 0)] = [a, b, c]
      rw [byteof_eq (c := a) (by omega), byteof_eq (c := b) (by omega), byteof_eq (c := c) (by omega)]
  · match l, h with
    | [a, b, c, d], _ =>
      have ha := a.toNat_lt
      have hb := b.toNat_lt
      have hc := c.toNat_lt
      have hd := d.toNat_lt
      show [UInt8.ofNat (((((0 * 256 + a.toNat) * 256 + b.toNat) * 256 + c.toNat) * 256 + d.toNat) / 256 ^ 3), UInt8.ofNat (((((0 * 256 + a.toNat) * 256 + b.toNat) * 256 + c.toNat) * 256 + d.toNat) / 256 ^ 2), UInt8.ofNat (((((0 * 256 + a.toNat) * 256 + b.toNat) * 256 + c.toNat) * 256 + d.toNat) / 256 ^ 1), UInt8.ofNat (((((0 * 256 + a.toNat) * 256 + b.toNat) * 256 + c.toNat) * 256 + d.toNat) / 256 ^ 0)] = [a, b, c, d]
      rw [byteof_eq (c := a) (by omega), byteof_eq (c := b) (by omega), byteof_eq (c := c) (by omega), byteof_eq (c := d) (by omega)]
theorem num_fwd {keep : Bool} {s : St} {k : Nat} {most : Int} (hk : 1 ≤ k ∧ k ≤ 4) (h : (s.num keep k most).e = 0) : s.e = 0 ∧ s.b = numB (s.nv k most).toNat k ++ (s.num keep k most).b := by
  have h : numE s.e s.b k most = 0 := h
  show s.e = 0 ∧ s.b = numB (numV s.e s.b k most).toNat k ++ numL keep s.e s.b k
  by_cases he : s.e = 0
  · by_cases hl : (s.b.length : Int) < k
    · unfold numE at h
      rw [if_neg (by simp [he]), if_neg (by omega), if_pos hl] at h
      cases h
    · by_cases hm : most < valB (s.b.take (k : Int).toNat)
      · unfold numE at h
        rw [if_neg (by simp [he]), if_neg (by omega), if_neg hl, if_pos hm] at h
        cases h
      · have v : numV s.e s.b k most = valB (s.b.take (k : Int).toNat) := by
          unfold numV
          rw [if_neg (by simp [he]), if_neg (by omega), if_neg hl, if_neg hm]
        have L : numL keep s.e s.b k = s.b.drop (k : Int).toNat := by
          unfold numL
          rw [if_neg (by simp [he]), if_neg (by omega), if_neg hl]
        rw [v, L, Int.toNat_natCast, Int.toNat_natCast, numB_valB hk (by rw [List.length_take]; omega), List.take_append_drop]
        exact ⟨he, rfl⟩
  · unfold numE at h
    rw [if_pos he] at h; exact absurd h he
theorem recs_stay {keep : Bool} : ∀ (l : List Nat) (q : Pol × St) {r : Nat}, r ∉ l → (l.foldl (recRd keep) q).1.ls r = q.1.ls r ∧ (l.foldl (recRd keep) q).1.li r = q.1.li r ∧ (l.foldl (recRd keep) q).1.acts r = q.1.acts r
  | [], _, _, _ => ⟨rfl, rfl, rfl⟩
  | x :: l, q, r, h => by
    simp only [List.mem_cons, not_or] at h
    obtain ⟨a, b, c⟩ := recs_stay l (recRd keep q x) h.2
    rw [List.foldl_cons, a, b, c]
    exact ⟨upd_ne _ h.1, upd_ne _ h.1, upd_ne _ h.1⟩
theorem recs_fwd {keep : Bool} : ∀ (l : List Nat) (q : Pol × St), l.Nodup → (l.foldl (recRd keep) q).2.e = 0 → q.2.e = 0 ∧ q.2.b = l.flatMap (recB (l.foldl (recRd keep) q).1) ++ (l.foldl (recRd keep) q).2.b
  | [], q, _, h => ⟨h, rfl⟩
  | r :: l, q, hn, h => by
    rw [List.nodup_cons] at hn
    rw [List.foldl_cons] at h ⊢
    obtain ⟨a, b⟩ := recs_fwd l (recRd keep q r) hn.2 h
    obtain ⟨c1, c2, c3⟩ := recs_stay (keep := keep) l (recRd keep q r) hn.1
    rw [List.flatMap_cons, List.append_assoc, ← b]
    have hr : recB (l.foldl (recRd keep) (recRd keep q r)).1 r = numB (q.2.nv 2 65535).toNat 2 ++ (numB ((q.2.num keep 2 65535).nv 2 65535).toNat 2 ++ numB (((q.2.num keep 2 65535).num keep 2 65535).nv 2 65535).toNat 2) := by
      unfold recB
      rw [c1, c2, c3]
      show numB (updF _ r _ r) 2 ++ (numB (updF _ r _ r) 2 ++ numB (updF _ r _ r) 2) = _
      rw [upd_at, upd_at, upd_at]
    rw [hr]
    have a : (((q.2.num keep (2 : Nat) 65535).num keep (2 : Nat) 65535).num keep (2 : Nat) 65535).e = 0 := a
    obtain ⟨a3, b3⟩ := num_fwd (by omega) a
    obtain ⟨a2, b2⟩ := num_fwd (by omega) a3
    obtain ⟨a1, b1⟩ := num_fwd (by omega) a2
    refine ⟨a1, ?_⟩
    have b1 : q.2.b = numB (q.2.nv 2 65535).toNat 2 ++ (q.2.num keep 2 65535).b := b1
    have b2 : (q.2.num keep 2 65535).b = numB ((q.2.num keep 2 65535).nv 2 65535).toNat 2 ++ ((q.2.num keep 2 65535).num keep 2 65535).b := b2
    have b3 : ((q.2.num keep 2 65535).num keep 2 65535).b = numB (((q.2.num keep 2 65535).num keep 2 65535).nv 2 65535).toNat 2 ++ (((q.2.num keep 2 65535).num keep 2 65535).num keep 2 65535).b := b3
    rw [b1, b2, b3]
    simp only [List.append_assoc]
    rfl
theorem owns_stay {keep : Bool} : ∀ (l : List Nat) (q : Pol × St) {r : Nat}, r ∉ l → (l.foldl (ownRd keep) q).1.own r = q.1.own r
  | [], _, _, _ => rfl
  | x :: l, q, r, h => by
    simp only [List.mem_cons, not_or] at h
    rw [List.foldl_cons, owns_stay l (ownRd keep q x) h.2]
    exact upd_ne _ h.1
theorem owns_keep {keep : Bool} : ∀ (l : List Nat) (q : Pol × St), (l.foldl (ownRd keep) q).1.live = q.1.live ∧ (l.foldl (ownRd keep) q).1.ls = q.1.ls ∧ (l.foldl (ownRd keep) q).1.li = q.1.li ∧ (l.foldl (ownRd keep) q).1.acts = q.1.acts ∧ (l.foldl (ownRd keep) q).1.active = q.1.active
  | [], _ => ⟨rfl, rfl, rfl, rfl, rfl⟩
  | x :: l, q => by rw [List.foldl_cons]; exact owns_keep l (ownRd keep q x)
theorem owns_fwd {keep : Bool} : ∀ (l : List Nat) (q : Pol × St), l.Nodup → (l.foldl (ownRd keep) q).2.e = 0 → q.2.e = 0 ∧ q.2.b = l.flatMap (fun t => numB ((l.foldl (ownRd keep) q).1.own t) 1) ++ (l.foldl (ownRd keep) q).2.b
  | [], q, _, h => ⟨h, rfl⟩
  | r :: l, q, hn, h => by
    rw [List.nodup_cons] at hn
    rw [List.foldl_cons] at h ⊢
    obtain ⟨a, b⟩ := owns_fwd l (ownRd keep q r) hn.2 h
    have c := owns_stay (keep := keep) l (ownRd keep q r) hn.1
    rw [List.flatMap_cons, List.append_assoc, ← b, c]
    have hr : (ownRd keep q r).1.own r = (q.2.nv 1 16).toNat := upd_at _ _ _
    rw [hr]
    have a : (q.2.num keep (1 : Nat) 16).e = 0 := a
    obtain ⟨a1, b1⟩ := num_fwd (by omega) a
    exact ⟨a1, b1⟩
theorem recRd_active {keep : Bool} : ∀ (l : List Nat) (q : Pol × St), (l.foldl (recRd keep) q).1.live = q.1.live
  | l, q => rolesRd_live l q
theorem tags_fwd {keep : Bool} {s : St} (h : (tagsRd keep s).2.e = 0) : s.b = polB (tagsRd keep s).1 ++ (tagsRd keep s).2.b := by
  have hnd : (List.range 16).Nodup := List.nodup_range
  have hnb : ∀ n, (bitsN n).Nodup := fun n => List.Pairwise.filter _ List.nodup_range
  have hT : tagsRd keep s = (List.range 16).foldl (ownRd keep) (setActive (rolesRd keep s).1 ((rolesRd keep s).2.nv 2 65535).toNat, (rolesRd keep s).2.num keep 2 65535) := rfl
  have hR : rolesRd keep s = (bitsN (s.nv 2 65535).toNat).foldl (recRd keep) (setLive zeroP (s.nv 2 65535).toNat, s.num keep 2 65535) := rfl
  have hk := owns_keep (keep := keep) (List.range 16) (setActive (rolesRd keep s).1 ((rolesRd keep s).2.nv 2 65535).toNat, (rolesRd keep s).2.num keep 2 65535)
  rw [hT] at h
  obtain ⟨a, b⟩ := owns_fwd _ _ hnd h
  rw [← hT] at b hk
  have a : ((rolesRd keep s).2.num keep (2 : Nat) 65535).e = 0 := a
  obtain ⟨a2, b2⟩ := num_fwd (by omega) a
  have hlv : (rolesRd keep s).1.live = (s.nv 2 65535).toNat := rolesRd_live _ _
  have a2' := a2
  rw [hR] at a2'
  obtain ⟨a3, b3⟩ := recs_fwd _ _ (hnb _) a2'
  rw [← hR] at b3
  have a3 : (s.num keep (2 : Nat) 65535).e = 0 := a3
  obtain ⟨-, b4⟩ := num_fwd (by omega) a3
  have b4 : s.b = numB (s.nv 2 65535).toNat 2 ++ (s.num keep 2 65535).b := b4
  have b3 : (s.num keep 2 65535).b = (bitsN (s.nv 2 65535).toNat).flatMap (recB (rolesRd keep s).1) ++ (rolesRd keep s).2.b := b3
  have b2 : (rolesRd keep s).2.b = numB ((rolesRd keep s).2.nv 2 65535).toNat 2 ++ ((rolesRd keep s).2.num keep 2 65535).b := b2
  have b : ((rolesRd keep s).2.num keep 2 65535).b = ownsB (tagsRd keep s).1 16 ++ (tagsRd keep s).2.b := b
  obtain ⟨k1, k2, k3, k4, k5⟩ := hk
  have hrec : recB (tagsRd keep s).1 = recB (rolesRd keep s).1 := funext fun r => by
    unfold recB
    rw [k2, k3, k4]
    rfl
  unfold polB
  rw [hrec, k1, k5]
  show s.b = numB (rolesRd keep s).1.live 2 ++ (bitsN (rolesRd keep s).1.live).flatMap (recB (rolesRd keep s).1) ++ numB ((rolesRd keep s).2.nv 2 65535).toNat 2 ++ ownsB (tagsRd keep s).1 16 ++ (tagsRd keep s).2.b
  rw [hlv, b4, b3, b2, b]
  simp only [List.append_assoc]
theorem polRd_fwd {keep : Bool} {s : St} (h : (polRd keep s).2.e = 0) : s.b = polB (polRd keep s).1 ++ (polRd keep s).2.b := by
  have hc : (chkRd (tagsRd keep s)).e = 0 := by
    unfold polRd at h
    split at h
    · assumption
    · exact h
  unfold polRd
  rw [if_pos hc]
  have ht : (tagsRd keep s).2.e = 0 ∧ chkRd (tagsRd keep s) = (tagsRd keep s).2 := by
    unfold chkRd at hc ⊢
    split at hc
    · rename_i hh
      have hc : firstE (tagsRd keep s).2.e 3 = 0 := hc
      rw [hh.1] at hc
      exact absurd hc (by decide)
    · rename_i hh
      exact ⟨hc, if_neg hh⟩
  rw [ht.2]
  exact tags_fwd ht.1
end Go.Ab.S
