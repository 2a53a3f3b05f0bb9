/- Versions: lists of policies, read and written. No condition. -/
import Derived.Test.YtepldakgedckcaaDoorLP27
set_option linter.unusedSimpArgs false
set_option linter.unusedVariables false
namespace Go.Ab.S
open Go Go.Ab Go.Proofs
set_option maxRecDepth 100000
def pols (l : List Pol) : List (List PV) := l.map Pol.row
theorem pols_len {l : List Pol} : (pols l).length = l.length := by simp [pols]
theorem pols_get {l : List Pol} {i : Nat} (h : i < l.length) : (pols l)[i]? = some l[i].row := by rw [pols, List.getElem?_map, List.getElem?_eq_getElem h]; rfl
theorem pols_app (l : List Pol) (p : Pol) : pols (l ++ [p]) = pols l ++ [p.row] := by unfold pols; rw [List.map_append]; rfl
def keptN (e : Int) : Nat := if 0 ≤ e ∧ e ≤ 255 then (min (e + 1) 8).toNat else 0
theorem keptN_le {e : Int} : keptN e ≤ 8 := by
  unfold keptN
  split
  · omega
  · omega
def polsRd (keep : Bool) : Nat → List Pol → St → List Pol × St
  | 0, o, s => (o, s)
  | n + 1, o, s => polsRd keep n (o ++ [(polRd keep s).1]) (polRd keep s).2
def verAll (keep : Bool) (s : St) : List Pol × St := polsRd keep (keptN (s.nv 1 255)) [] (s.num keep 1 255)
def verRd (keep : Bool) (s : St) : (Int × List Pol) × St := ((if (verAll keep s).2.e = 0 then (s.nv 1 255, (verAll keep s).1) else (0, [])), (verAll keep s).2)
def verB (e : Nat) (l : List Pol) : List UInt8 := numB e 1 ++ l.flatMap polB
theorem polsRd_same : ∀ (n : Nat) (o : List Pol) {s s' : St}, SameS s s' → (polsRd true n o s).1 = (polsRd false n o s').1 ∧ SameS (polsRd true n o s).2 (polsRd false n o s').2
  | 0, _, _, _, h => ⟨rfl, h⟩
  | n + 1, o, s, s', h => by
    obtain ⟨e0, h1⟩ := polRd_same h
    show (polsRd true n (o ++ [(polRd true s).1]) (polRd true s).2).1 = (polsRd false n (o ++ [(polRd false s').1]) (polRd false s').2).1 ∧ SameS (polsRd true n (o ++ [(polRd true s).1]) (polRd true s).2).2 (polsRd false n (o ++ [(polRd false s').1]) (polRd false s').2).2
    rw [e0]
    exact polsRd_same n _ h1
theorem verRd_same {s s' : St} (h : SameS s s') : (verRd true s).1 = (verRd false s').1 ∧ SameS (verRd true s).2 (verRd false s').2 := by
  have hh : (verAll true s).1 = (verAll false s').1 ∧ SameS (verAll true s).2 (verAll false s').2 := by
    unfold verAll
    rw [h.nv]
    exact polsRd_same _ [] (h.num 1 255)
  unfold verRd
  dsimp only
  rw [hh.1, hh.2.e, h.nv]
  exact ⟨rfl, hh.2⟩
theorem polsRd_suf {B : List UInt8} {keep : Bool} : ∀ (n : Nat) (o : List Pol) {s : St}, Suf B s.b → Suf B (polsRd keep n o s).2.b
  | 0, _, _, h => h
  | n + 1, o, s, h => polsRd_suf n (o ++ [(polRd keep s).1]) (s := (polRd keep s).2) (polRd_suf h)
theorem verRd_suf {B : List UInt8} {keep : Bool} {s : St} (h : Suf B s.b) : Suf B (verRd keep s).2.b := polsRd_suf _ _ (h.num keep 1 255)
theorem polsRd_ok {keep : Bool} : ∀ (n : Nat) (o : List Pol) {s : St}, (∀ p ∈ o, p.Ok) → ∀ p ∈ (polsRd keep n o s).1, p.Ok
  | 0, _, _, h => h
  | n + 1, o, s, h => polsRd_ok n (o ++ [(polRd keep s).1]) (s := (polRd keep s).2) (fun p hp => by
      rcases List.mem_append.1 hp with hp | hp
      · exact h p hp
      · rw [List.mem_singleton.1 hp]; exact polRd_ok)
theorem verRd_ok {keep : Bool} {s : St} : ∀ p ∈ (verRd keep s).1.2, p.Ok := by
  unfold verRd
  dsimp only
  split
  · exact polsRd_ok _ _ (fun p hp => absurd hp (by simp))
  · exact fun p hp => absurd hp (by simp)
theorem polsRd_len {keep : Bool} : ∀ (n : Nat) (o : List Pol) {s : St}, (polsRd keep n o s).1.length = o.length + n
  | 0, _, _ => rfl
  | n + 1, o, s => by
    have := polsRd_len (keep := keep) n (o ++ [(polRd keep s).1]) (s := (polRd keep s).2)
    rw [List.length_append, List.length_singleton] at this
    show (polsRd keep n (o ++ [(polRd keep s).1]) (polRd keep s).2).1.length = _
    omega
theorem verRd_len {keep : Bool} {s : St} : (verRd keep s).1.2.length ≤ 8 := by
  unfold verRd
  dsimp only
  split
  · have := polsRd_len (keep := keep) (keptN (s.nv 1 255)) [] (s := s.num keep 1 255)
    have hk := keptN_le (e := s.nv 1 255)
    show (polsRd keep (keptN (s.nv 1 255)) [] (s.num keep 1 255)).1.length ≤ 8
    rw [List.length_nil] at this
    omega
  · exact Nat.zero_le _
theorem verRd_num {keep : Bool} {s : St} : 0 ≤ (verRd keep s).1.1 ∧ (verRd keep s).1.1 ≤ 255 := by
  have hn := nv_range (s := s) (size := 1) (most := 255) (by omega)
  unfold verRd
  dsimp only
  split
  · exact hn
  · exact ⟨Int.le_refl _, show (0 : Int) ≤ 255 by omega⟩
theorem tags_e {keep : Bool} {s : St} (h : (tagsRd keep s).2.e = 0) : s.e = 0 := by
  have hnd : (List.range 16).Nodup := List.nodup_range
  have hnb : ∀ n, (bitsN n).Nodup := fun n => List.Pairwise.filter _ List.nodup_range
  have hT : tagsRd keep s = (List.range 16).foldl (ownRd keep) (setActive (rolesRd keep s).1 ((rolesRd keep s).2.nv 2 65535).toNat, (rolesRd keep s).2.num keep 2 65535) := rfl
  have hR : rolesRd keep s = (bitsN (s.nv 2 65535).toNat).foldl (recRd keep) (setLive zeroP (s.nv 2 65535).toNat, s.num keep 2 65535) := rfl
  rw [hT] at h
  obtain ⟨a, -⟩ := owns_fwd _ _ hnd h
  have a : ((rolesRd keep s).2.num keep (2 : Nat) 65535).e = 0 := a
  obtain ⟨a2, -⟩ := num_fwd (by omega) a
  rw [hR] at a2
  obtain ⟨a3, -⟩ := recs_fwd _ _ (hnb _) a2
  have a3 : (s.num keep (2 : Nat) 65535).e = 0 := a3
  exact (num_fwd (by omega) a3).1
theorem polRd_e {keep : Bool} {s : St} (h : (polRd keep s).2.e = 0) : s.e = 0 := by
  have hc : (chkRd (tagsRd keep s)).e = 0 := by
    unfold polRd at h
    split at h
    · assumption
    · exact h
  refine tags_e (keep := keep) ?_
  unfold chkRd at hc
  split at hc
  · rename_i hh
    exact hh.1
  · exact hc
theorem polsRd_fwd {keep : Bool} : ∀ (n : Nat) (o : List Pol) {s : St}, (polsRd keep n o s).2.e = 0 → s.e = 0 ∧ ∃ l, (polsRd keep n o s).1 = o ++ l ∧ s.b = l.flatMap polB ++ (polsRd keep n o s).2.b
  | 0, o, s, h => ⟨h, [], (List.append_nil o).symm, rfl⟩
  | n + 1, o, s, h => by
    have h : (polsRd keep n (o ++ [(polRd keep s).1]) (polRd keep s).2).2.e = 0 := h
    obtain ⟨h1, l, h2, h3⟩ := polsRd_fwd n (o ++ [(polRd keep s).1]) h
    have h4 := polRd_fwd h1
    refine ⟨polRd_e h1, (polRd keep s).1 :: l, ?_, ?_⟩
    · show (polsRd keep n (o ++ [(polRd keep s).1]) (polRd keep s).2).1 = _
      rw [h2, List.append_assoc]; rfl
    · show s.b = ((polRd keep s).1 :: l).flatMap polB ++ (polsRd keep n (o ++ [(polRd keep s).1]) (polRd keep s).2).2.b
      rw [h4, h3, List.flatMap_cons, List.append_assoc]
theorem verRd_fwd {keep : Bool} {s : St} (h : (verRd keep s).2.e = 0) : s.b = verB (verRd keep s).1.1.toNat (verRd keep s).1.2 ++ (verRd keep s).2.b := by
  have h : (verAll keep s).2.e = 0 := h
  obtain ⟨h1, l, h2, h3⟩ := polsRd_fwd _ _ h
  have h1 : (s.num keep (1 : Nat) 255).e = 0 := h1
  obtain ⟨-, h4⟩ := num_fwd (by omega) h1
  have h4 : s.b = numB (s.nv 1 255).toNat 1 ++ (s.num keep 1 255).b := h4
  have h2 : (verAll keep s).1 = l := h2
  unfold verRd
  dsimp only
  rw [if_pos h]
  dsimp only
  rw [h2, h4]
  have h3 : (s.num keep 1 255).b = l.flatMap polB ++ (verAll keep s).2.b := h3
  rw [h3]
  unfold verB
  rw [List.append_assoc]
theorem polsRd_back (keep : Bool) (rest : List UInt8) : ∀ (l o : List Pol), (∀ p ∈ l, p.Ok ∧ fineP p = true) → pols (polsRd keep l.length o ⟨0, l.flatMap polB ++ rest⟩).1 = pols (o ++ l) ∧ (polsRd keep l.length o ⟨0, l.flatMap polB ++ rest⟩).2 = ⟨0, rest⟩
  | [], o, _ => ⟨by rw [List.append_nil]; rfl, rfl⟩
  | p :: l, o, h => by
    obtain ⟨h1, h2⟩ := h p (by simp)
    obtain ⟨a1, a2⟩ := polRd_back keep h1 h2 (l.flatMap polB ++ rest)
    rw [List.flatMap_cons, List.append_assoc, List.length_cons]
    show pols (polsRd keep l.length (o ++ [(polRd keep ⟨0, polB p ++ (l.flatMap polB ++ rest)⟩).1]) (polRd keep ⟨0, polB p ++ (l.flatMap polB ++ rest)⟩).2).1 = _ ∧ (polsRd keep l.length (o ++ [(polRd keep ⟨0, polB p ++ (l.flatMap polB ++ rest)⟩).1]) (polRd keep ⟨0, polB p ++ (l.flatMap polB ++ rest)⟩).2).2 = _
    rw [a2]
    obtain ⟨b1, b2⟩ := polsRd_back keep rest l (o ++ [(polRd keep ⟨0, polB p ++ (l.flatMap polB ++ rest)⟩).1]) (fun x hx => h x (by simp [hx]))
    refine ⟨?_, b2⟩
    rw [b1]
    unfold pols
    simp only [List.map_append, List.map_cons, List.map_nil, List.append_assoc, List.cons_append, List.nil_append, a1]
theorem verRd_back (keep : Bool) (rest : List UInt8) (e : Nat) (he : e ≤ 255) (l : List Pol) (hl : l.length = keptN e) (h : ∀ p ∈ l, p.Ok ∧ fineP p = true) : (verRd keep ⟨0, verB e l ++ rest⟩).1.1 = e ∧ pols (verRd keep ⟨0, verB e l ++ rest⟩).1.2 = pols l ∧ (verRd keep ⟨0, verB e l ++ rest⟩).2 = ⟨0, rest⟩ := by
  have hw : verB e l ++ rest = numB e 1 ++ (l.flatMap polB ++ rest) := by
    unfold verB
    rw [List.append_assoc]
  obtain ⟨a1, b1⟩ := num_back keep e 1 255 (l.flatMap polB ++ rest) (by omega) (by omega) (by omega)
  have a1 : St.num keep ⟨0, _⟩ (1 : Int) 255 = _ := a1
  have b1 : St.nv ⟨0, _⟩ (1 : Int) 255 = _ := b1
  obtain ⟨c1, c2⟩ := polsRd_back keep rest l [] h
  have hall : verAll keep ⟨0, verB e l ++ rest⟩ = polsRd keep l.length [] ⟨0, l.flatMap polB ++ rest⟩ := by
    unfold verAll
    rw [hw, b1, a1, hl]
  unfold verRd
  dsimp only
  rw [hall, c2, if_pos rfl, hw, b1]
  exact ⟨rfl, c1, rfl⟩
end Go.Ab.S
