/- Part of a proof; no condition. What is read on both sides; that what was written is read, and what was read is written again. No condition. Part of a proof; no condition. -/
import Derived.Test.YtepldakgedckcaaDoorLP16
import Derived.Test.YtepldakgedckcaaDoorLPA
set_option linter.unusedSimpArgs false
set_option linter.unusedVariables false
namespace Go.Ab.S
open Go Go.Ab Go.Proofs
attribute [local irreducible] SemS
set_option maxRecDepth 100000
/-! ### The policies at the end of each statement -/
def secondP : Pol := ⟨3, fun r => if r = 1 then 4 else 0, fun r => if r = 0 then 65535 else 0, fun r => if r = 1 then 1 else 0, fun _ => 0, 65535⟩
def thirdP : Pol := ⟨2, fun _ => 0, fun _ => 0, fun r => if r = 1 then 2 else 0, fun _ => 0, 0⟩
end Go.Ab.S

namespace Go.Ab.S
open Go Go.Ab Go.Proofs
/-! ### Both readers -/
theorem rec_same {p : Pol} {s s' : St} (h : SameS s s') (r : Nat) : (recRd true (p, s) r).1 = (recRd false (p, s') r).1 ∧ SameS (recRd true (p, s) r).2 (recRd false (p, s') r).2 := by
  have h1 := h.num 2 65535
  have h2 := h1.num 2 65535
  have h3 := h2.num 2 65535
  refine ⟨?_, h3⟩
  unfold recRd
  dsimp only
  rw [h.nv, h1.nv, h2.nv]
theorem recs_same : ∀ (l : List Nat) {p : Pol} {s s' : St}, SameS s s' → (l.foldl (recRd true) (p, s)).1 = (l.foldl (recRd false) (p, s')).1 ∧ SameS (l.foldl (recRd true) (p, s)).2 (l.foldl (recRd false) (p, s')).2
  | [], _, _, _, h => ⟨rfl, h⟩
  | r :: l, p, s, s', h => by
    obtain ⟨a, b⟩ := rec_same (p := p) h r
    rw [List.foldl_cons, List.foldl_cons]
    have e1 : recRd true (p, s) r = ((recRd true (p, s) r).1, (recRd true (p, s) r).2) := rfl
    have e2 : recRd false (p, s') r = ((recRd false (p, s') r).1, (recRd false (p, s') r).2) := rfl
    rw [e1, e2, a]
    exact recs_same l b
theorem owns_same : ∀ (l : List Nat) {p : Pol} {s s' : St}, SameS s s' → (l.foldl (ownRd true) (p, s)).1 = (l.foldl (ownRd false) (p, s')).1 ∧ SameS (l.foldl (ownRd true) (p, s)).2 (l.foldl (ownRd false) (p, s')).2
  | [], _, _, _, h => ⟨rfl, h⟩
  | t :: l, p, s, s', h => by
    rw [List.foldl_cons, List.foldl_cons]
    unfold ownRd
    dsimp only
    rw [h.nv]
    exact owns_same l (h.num 1 16)
theorem roles_same {s s' : St} (h : SameS s s') : (rolesRd true s).1 = (rolesRd false s').1 ∧ SameS (rolesRd true s).2 (rolesRd false s').2 := by
  unfold rolesRd
  rw [h.nv]
  exact recs_same _ (h.num 2 65535)
theorem tags_same {s s' : St} (h : SameS s s') : (tagsRd true s).1 = (tagsRd false s').1 ∧ SameS (tagsRd true s).2 (tagsRd false s').2 := by
  obtain ⟨a, b⟩ := roles_same h
  unfold tagsRd
  rw [a, b.nv]
  exact owns_same _ (b.num 2 65535)
theorem polRd_same {s s' : St} (h : SameS s s') : (polRd true s).1 = (polRd false s').1 ∧ SameS (polRd true s).2 (polRd false s').2 := by
  obtain ⟨a, b⟩ := tags_same h
  have hc : SameS (chkRd (tagsRd true s)) (chkRd (tagsRd false s')) := by
    unfold chkRd
    rw [a, b.e]
    split
    · exact b.fail 3
    · exact b
  unfold polRd
  rw [hc.e, a]
  split
  · exact ⟨rfl, hc⟩
  · exact ⟨rfl, hc⟩
/-! ### What was written is read -/
theorem row_inj {p q : Pol} (h : p.row = q.row) : p.live = q.live ∧ (∀ r, r < 16 → p.ls r = q.ls r) ∧ (∀ r, r < 16 → p.li r = q.li r) ∧ (∀ r, r < 16 → p.acts r = q.acts r) ∧ (∀ r, r < 16 → p.own r = q.own r) ∧ p.active = q.active := by
  have u : ∀ {a b : Nat}, some (true, uv (a : Int)) = some (true, uv (b : Int)) → a = b := fun h => by
    have := congrArg (fun x : Option (Bool × AV) => match x with | some (_, .c (.p (.int _ n))) => n | _ => 0) h
    exact Int.ofNat.inj this
  refine ⟨?_, fun r hr => ?_, fun r hr => ?_, fun r hr => ?_, fun r hr => ?_, ?_⟩
  · have h1 : partP false 1 p.row 0 = partP false 1 q.row 0 := by rw [h]
    exact u h1
  · have h1 := pol_ls p hr
    rw [h, pol_ls q hr] at h1
    exact (u h1).symm
  · have h1 := pol_li p hr
    rw [h, pol_li q hr] at h1
    exact (u h1).symm
  · have h1 := pol_act p hr
    rw [h, pol_act q hr] at h1
    exact (u h1).symm
  · have h1 := pol_own p hr
    rw [h, pol_own q hr] at h1
    have := congrArg (fun x : Option (Bool × AV) => match x with | some (_, .c (.p (.int _ n))) => n | _ => 0) h1
    exact (Int.ofNat.inj this).symm
  · have h1 : partP false 1 p.row 65 = partP false 1 q.row 65 := by rw [h]
    exact u h1
theorem all16_congr {f g : Nat → Bool} (h : ∀ r, r < 16 → f r = g r) : all16 f = all16 g := by
  rw [Bool.eq_iff_iff, all16_iff, all16_iff]
  exact ⟨fun k r hr => (h r hr) ▸ k r hr, fun k r hr => (h r hr).symm ▸ k r hr⟩
theorem fine_congr {p q : Pol} (h : p.row = q.row) : fineP p = fineP q := by
  obtain ⟨h1, h2, h3, h4, h5, h6⟩ := row_inj h
  have e1 : all16 (roleB p) = all16 (roleB q) := by
    refine all16_congr fun r hr => ?_
    unfold roleB
    rw [h1, h2 r hr, h3 r hr, h4 r hr, h6]
  have e2 : all16 (ownB p) = all16 (ownB q) := by
    refine all16_congr fun r hr => ?_
    unfold ownB
    rw [h1, h5 r hr, h6]
  unfold fineP
  rw [e1, e2]
/-- The records of some roles, taken over. -/
def copyR (p q : Pol) (l : List Nat) : Pol := { q with
  ls := fun r => if r ∈ l then p.ls r else q.ls r
  li := fun r => if r ∈ l then p.li r else q.li r
  acts := fun r => if r ∈ l then p.acts r else q.acts r }
theorem pol_ext {p q : Pol} (h1 : p.live = q.live) (h2 : ∀ r, p.ls r = q.ls r) (h3 : ∀ r, p.li r = q.li r) (h4 : ∀ r, p.acts r = q.acts r) (h5 : ∀ r, p.own r = q.own r) (h6 : p.active = q.active) : p = q := by
  cases p; cases q
  dsimp only at *
  rw [h1, funext h2, funext h3, funext h4, funext h5, h6]
theorem upd_copy {f g : Nat → Nat} {l : List Nat} {r : Nat} (x : Nat) : (if x ∈ l then f x else updF g r (f r) x) = if x ∈ r :: l then f x else g x := by
  by_cases h : x ∈ l
  · rw [if_pos h, if_pos (by simp [h])]
  · rw [if_neg h]
    by_cases e : x = r
    · subst e; rw [upd_at, if_pos (by simp)]
    · rw [upd_ne _ e, if_neg (by simp [h, e])]
theorem recs_back (keep : Bool) {p : Pol} (hp : p.Ok) (rest : List UInt8) : ∀ (l : List Nat) (q : Pol), (∀ r ∈ l, r < 16) → l.foldl (recRd keep) (q, St.mk 0 (l.flatMap (recB p) ++ rest)) = (copyR p q l, St.mk 0 rest)
  | [], q, _ => rfl
  | r :: l, q, hl => by
    have hr := hl r (by simp)
    have e1 := hp.ls r hr
    have e2 := hp.li r hr
    have e3 := hp.acts r hr
    rw [List.foldl_cons, List.flatMap_cons]
    have hb : recB p r ++ l.flatMap (recB p) ++ rest = numB (p.ls r) 2 ++ (numB (p.li r) 2 ++ (numB (p.acts r) 2 ++ (l.flatMap (recB p) ++ rest))) := by
      unfold recB; simp only [List.append_assoc]
    rw [hb]
    obtain ⟨a1, b1⟩ := num_back keep (p.ls r) 2 65535 (numB (p.li r) 2 ++ (numB (p.acts r) 2 ++ (l.flatMap (recB p) ++ rest))) (by omega) (by omega) (by omega)
    obtain ⟨a2, b2⟩ := num_back keep (p.li r) 2 65535 (numB (p.acts r) 2 ++ (l.flatMap (recB p) ++ rest)) (by omega) (by omega) (by omega)
    obtain ⟨a3, b3⟩ := num_back keep (p.acts r) 2 65535 (l.flatMap (recB p) ++ rest) (by omega) (by omega) (by omega)
    have a1 : St.num keep _ (2 : Int) 65535 = _ := a1
    have b1 : St.nv _ (2 : Int) 65535 = _ := b1
    have a2 : St.num keep _ (2 : Int) 65535 = _ := a2
    have b2 : St.nv _ (2 : Int) 65535 = _ := b2
    have a3 : St.num keep _ (2 : Int) 65535 = _ := a3
    have b3 : St.nv _ (2 : Int) 65535 = _ := b3
    unfold recRd
    dsimp only
    rw [a1, b1, a2, b2, a3, b3, Int.toNat_natCast, Int.toNat_natCast, Int.toNat_natCast]
    have ih := recs_back keep hp rest l (setAct (setLab q r (p.ls r) (p.li r)) r (p.acts r)) fun x hx => hl x (by simp [hx])
    unfold recRd at ih
    rw [ih]
    refine congrArg (fun x => (x, St.mk 0 rest)) (pol_ext rfl (fun x => ?_) (fun x => ?_) (fun x => ?_) (fun _ => rfl) rfl)
    · exact upd_copy (f := p.ls) (g := q.ls) x
    · exact upd_copy (f := p.li) (g := q.li) x
    · exact upd_copy (f := p.acts) (g := q.acts) x
def copyO (p q : Pol) (l : List Nat) : Pol := { q with own := fun t => if t ∈ l then p.own t else q.own t }
theorem owns_back (keep : Bool) {p : Pol} (rest : List UInt8) : ∀ (l : List Nat) (q : Pol), (∀ t ∈ l, p.own t ≤ 16) → l.foldl (ownRd keep) (q, St.mk 0 (l.flatMap (fun t => numB (p.own t) 1) ++ rest)) = (copyO p q l, St.mk 0 rest)
  | [], q, _ => rfl
  | t :: l, q, hl => by
    have ht := hl t (by simp)
    rw [List.foldl_cons, List.flatMap_cons, List.append_assoc]
    obtain ⟨a1, b1⟩ := num_back keep (p.own t) 1 16 (l.flatMap (fun t => numB (p.own t) 1) ++ rest) (by omega) (by omega) (by omega)
    have a1 : St.num keep _ (1 : Int) 16 = _ := a1
    have b1 : St.nv _ (1 : Int) 16 = _ := b1
    unfold ownRd
    dsimp only
    rw [a1, b1, Int.toNat_natCast]
    have ih := owns_back keep rest l (setOwn q t (p.own t)) fun x hx => hl x (by simp [hx])
    unfold ownRd at ih
    rw [ih]
    exact congrArg (fun x => (x, St.mk 0 rest)) (pol_ext rfl (fun _ => rfl) (fun _ => rfl) (fun _ => rfl) (fun x => upd_copy (f := p.own) (g := q.own) x) rfl)
theorem own_le {p : Pol} (hf : fineP p = true) {t : Nat} (ht : t < 16) : p.own t ≤ 16 := by
  unfold fineP at hf
  rw [Bool.and_eq_true] at hf
  have h := all16_at hf.2 ht
  unfold ownB at h
  rw [Bool.or_eq_true, decide_eq_true_eq, Bool.and_eq_true] at h
  rcases h with h | ⟨h, -⟩
  · omega
  · have := has_lt h; omega
theorem polRd_back (keep : Bool) {p : Pol} (hp : p.Ok) (hf : fineP p = true) (rest : List UInt8) : (polRd keep (St.mk 0 (polB p ++ rest))).1.row = p.row ∧ (polRd keep (St.mk 0 (polB p ++ rest))).2 = St.mk 0 rest := by
  have hl := hp.live
  have ha := hp.active
  have hB : polB p ++ rest = numB p.live 2 ++ ((bitsN p.live).flatMap (recB p) ++ (numB p.active 2 ++ (ownsB p 16 ++ rest))) := by
    unfold polB; simp only [List.append_assoc]
  rw [hB]
  obtain ⟨a1, b1⟩ := num_back keep p.live 2 65535 ((bitsN p.live).flatMap (recB p) ++ (numB p.active 2 ++ (ownsB p 16 ++ rest))) (by omega) (by omega) (by omega)
  have a1 : St.num keep _ (2 : Int) 65535 = _ := a1
  have b1 : St.nv _ (2 : Int) 65535 = _ := b1
  have hR : rolesRd keep (St.mk 0 (numB p.live 2 ++ ((bitsN p.live).flatMap (recB p) ++ (numB p.active 2 ++ (ownsB p 16 ++ rest))))) = (copyR p (setLive zeroP p.live) (bitsN p.live), St.mk 0 (numB p.active 2 ++ (ownsB p 16 ++ rest))) := by
    unfold rolesRd
    rw [a1, b1, Int.toNat_natCast]
    exact recs_back keep hp _ _ _ fun r hr => (mem_bitsN.1 hr).1
  obtain ⟨a2, b2⟩ := num_back keep p.active 2 65535 (ownsB p 16 ++ rest) (by omega) (by omega) (by omega)
  have a2 : St.num keep _ (2 : Int) 65535 = _ := a2
  have b2 : St.nv _ (2 : Int) 65535 = _ := b2
  have hT : tagsRd keep (St.mk 0 (numB p.live 2 ++ ((bitsN p.live).flatMap (recB p) ++ (numB p.active 2 ++ (ownsB p 16 ++ rest))))) = (copyO p (setActive (copyR p (setLive zeroP p.live) (bitsN p.live)) p.active) (List.range 16), St.mk 0 rest) := by
    unfold tagsRd
    rw [hR]
    dsimp only
    rw [a2, b2, Int.toNat_natCast]
    exact owns_back keep rest (List.range 16) _ fun t ht => own_le hf (by simpa using ht)
  have hrow : (copyO p (setActive (copyR p (setLive zeroP p.live) (bitsN p.live)) p.active) (List.range 16)).row = p.row := by
    have hz : ∀ r, r < 16 → p.live.testBit r = false → p.ls r = 0 ∧ p.li r = 0 ∧ p.acts r = 0 := fun r hr h => by
      unfold fineP at hf
      rw [Bool.and_eq_true] at hf
      have h2 := all16_at hf.1 hr
      unfold roleB at h2
      rw [h, if_neg (by simp)] at h2
      simpa using h2
    have key : ∀ (f : Nat → Nat) (r : Nat), r < 16 → (p.live.testBit r = false → f r = 0) → (if r ∈ bitsN p.live then f r else 0) = f r := fun f r hr h0 => by
      by_cases h : p.live.testBit r = true
      · rw [if_pos (mem_bitsN.2 ⟨hr, h⟩)]
      · rw [if_neg fun hm => h (mem_bitsN.1 hm).2, h0 (by simpa using h)]
    exact Pol.row_ext rfl (fun r hr => key p.ls r hr fun h => (hz r hr h).1) (fun r hr => key p.li r hr fun h => (hz r hr h).2.1) (fun r hr => key p.acts r hr fun h => (hz r hr h).2.2) (fun t ht => if_pos (by simpa using ht)) rfl
  have hc : chkRd (tagsRd keep (St.mk 0 (numB p.live 2 ++ ((bitsN p.live).flatMap (recB p) ++ (numB p.active 2 ++ (ownsB p 16 ++ rest)))))) = St.mk 0 rest := by
    rw [hT]
    exact chk_same fun h => by
      have := h.2
      rw [show fineP _ = fineP p from fine_congr hrow, hf] at this
      cases this
  unfold polRd
  rw [hc, if_pos rfl, hT]
  exact ⟨hrow, rfl⟩
end Go.Ab.S

namespace Go.Ab.S
open Go Go.Ab Go.Proofs
/-! ### What was read is written again -/
theorem byteof_eq {n : Nat} {c : UInt8} (h : n % 256 = c.toNat) : UInt8.ofNat n = c := by
  refine UInt8.toNat_inj.1 ?_
  rw [UInt8.toNat_ofNat']
  exact h
theorem numB_valB {l : List UInt8} {k : Nat} (hk : 1 ≤ k ∧ k ≤ 4) (h : l.length = k) : numB (valB l) k = l := by
  have : k = 1 ∨ k = 2 ∨ k = 3 ∨ k = 4 := by omega
  rcases this with rfl | rfl | rfl | rfl
  · match l, h with
    | [a], _ =>
      have ha := a.toNat_lt
      show [UInt8.ofNat ((0 * 256 + a.toNat) / 256 ^ 0)] = [a]
      rw [byteof_eq (c := a) (by omega)]
  · match l, h with
    | [a, b], _ =>
      have ha := a.toNat_lt
      have hb := b.toNat_lt
      show [UInt8.ofNat (((0 * 256 + a.toNat) * 256 + b.toNat) / 256 ^ 1), UInt8.ofNat (((0 * 256 + a.toNat) * 256 + b.toNat) / 256 ^ 0)] = [a, b]
      rw [byteof_eq (c := a) (by omega), byteof_eq (c := b) (by omega)]
  · match l, h with
    | [a, b, c], _ =>
      have ha := a.toNat_lt
      have hb := b.toNat_lt
      have hc := c.toNat_lt
      show [UInt8.ofNat ((((0 * 256 + a.toNat) * 256 + b.toNat) * 256 + c.toNat) / 256 ^ 2), UInt8.ofNat ((((0 * 256 + a.toNat) * 256 + b.toNat) * 256 + c.toNat) / 256 ^ 1), UInt8.ofNat ((((0 * 256 + a.toNat) * 256 + b.toNat) * 256 + c.toNat) / 256 ^ 0)] = [a, b, c]
      rw [byteof_eq (c := a) (by omega), byteof_eq (c := b) (by omega), byteof_eq (c := c) (by omega)]
  · match l, h with
    | [a, b, c, d], _ =>
      have ha := a.toNat_lt
      have hb := b.toNat_lt
      have hc := c.toNat_lt
      have hd := d.toNat_lt
      show [UInt8.ofNat (((((0 * 256 + a.toNat) * 256 + b.toNat) * 256 + c.toNat) * 256 + d.toNat) / 256 ^ 3), UInt8.ofNat (((((0 * 256 + a.toNat) * 256 + b.toNat) * 256 + c.toNat) * 256 + d.toNat) / 256 ^ 2), UInt8.ofNat (((((0 * 256 + a.toNat) * 256 + b.toNat) * 256 + c.toNat) * 256 + d.toNat) / 256 ^ 1), UInt8.ofNat (((((0 * 256 + a.toNat) * 256 + b.toNat) * 256 + c.toNat) * 256 + d.toNat) / 256 ^ 0)] = [a, b, c, d]
      rw [byteof_eq (c := a) (by omega), byteof_eq (c := b) (by omega), byteof_eq (c := c) (by omega), byteof_eq (c := d) (by omega)]
theorem num_fwd {keep : Bool} {s : St} {k : Nat} {most : Int} (hk : 1 ≤ k ∧ k ≤ 4) (h : (s.num keep k most).e = 0) : s.e = 0 ∧ s.b = numB (s.nv k most).toNat k ++ (s.num keep k most).b := by
  have h : numE s.e s.b k most = 0 := h
  show s.e = 0 ∧ s.b = numB (numV s.e s.b k most).toNat k ++ numL keep s.e s.b k
  by_cases he : s.e = 0
  · by_cases hl : (s.b.length : Int) < k
    · unfold numE at h
      rw [if_neg (by simp [he]), if_neg (by omega), if_pos hl] at h
      cases h
    · by_cases hm : most < valB (s.b.take (k : Int).toNat)
      · unfold numE at h
        rw [if_neg (by simp [he]), if_neg (by omega), if_neg hl, if_pos hm] at h
        cases h
      · have v : numV s.e s.b k most = valB (s.b.take (k : Int).toNat) := by
          unfold numV
          rw [if_neg (by simp [he]), if_neg (by omega), if_neg hl, if_neg hm]
        have L : numL keep s.e s.b k = s.b.drop (k : Int).toNat := by
          unfold numL
          rw [if_neg (by simp [he]), if_neg (by omega), if_neg hl]
        rw [v, L, Int.toNat_natCast, Int.toNat_natCast, numB_valB hk (by rw [List.length_take]; omega), List.take_append_drop]
        exact ⟨he, rfl⟩
  · unfold numE at h
    rw [if_pos he] at h; exact absurd h he
theorem recs_stay {keep : Bool} : ∀ (l : List Nat) (q : Pol × St) {r : Nat}, r ∉ l → (l.foldl (recRd keep) q).1.ls r = q.1.ls r ∧ (l.foldl (recRd keep) q).1.li r = q.1.li r ∧ (l.foldl (recRd keep) q).1.acts r = q.1.acts r
  | [], _, _, _ => ⟨rfl, rfl, rfl⟩
  | x :: l, q, r, h => by
    simp only [List.mem_cons, not_or] at h
    obtain ⟨a, b, c⟩ := recs_stay l (recRd keep q x) h.2
    rw [List.foldl_cons, a, b, c]
    exact ⟨upd_ne _ h.1, upd_ne _ h.1, upd_ne _ h.1⟩
theorem recs_fwd {keep : Bool} : ∀ (l : List Nat) (q : Pol × St), l.Nodup → (l.foldl (recRd keep) q).2.e = 0 → q.2.e = 0 ∧ q.2.b = l.flatMap (recB (l.foldl (recRd keep) q).1) ++ (l.foldl (recRd keep) q).2.b
  | [], q, _, h => ⟨h, rfl⟩
  | r :: l, q, hn, h => by
    rw [List.nodup_cons] at hn
    rw [List.foldl_cons] at h ⊢
    obtain ⟨a, b⟩ := recs_fwd l (recRd keep q r) hn.2 h
    obtain ⟨c1, c2, c3⟩ := recs_stay (keep := keep) l (recRd keep q r) hn.1
    rw [List.flatMap_cons, List.append_assoc, ← b]
    have hr : recB (l.foldl (recRd keep) (recRd keep q r)).1 r = numB (q.2.nv 2 65535).toNat 2 ++ (numB ((q.2.num keep 2 65535).nv 2 65535).toNat 2 ++ numB (((q.2.num keep 2 65535).num keep 2 65535).nv 2 65535).toNat 2) := by
      unfold recB
      rw [c1, c2, c3]
      show numB (updF _ r _ r) 2 ++ (numB (updF _ r _ r) 2 ++ numB (updF _ r _ r) 2) = _
      rw [upd_at, upd_at, upd_at]
    rw [hr]
    have a : (((q.2.num keep (2 : Nat) 65535).num keep (2 : Nat) 65535).num keep (2 : Nat) 65535).e = 0 := a
    obtain ⟨a3, b3⟩ := num_fwd (by omega) a
    obtain ⟨a2, b2⟩ := num_fwd (by omega) a3
    obtain ⟨a1, b1⟩ := num_fwd (by omega) a2
    refine ⟨a1, ?_⟩
    have b1 : q.2.b = numB (q.2.nv 2 65535).toNat 2 ++ (q.2.num keep 2 65535).b := b1
    have b2 : (q.2.num keep 2 65535).b = numB ((q.2.num keep 2 65535).nv 2 65535).toNat 2 ++ ((q.2.num keep 2 65535).num keep 2 65535).b := b2
    have b3 : ((q.2.num keep 2 65535).num keep 2 65535).b = numB (((q.2.num keep 2 65535).num keep 2 65535).nv 2 65535).toNat 2 ++ (((q.2.num keep 2 65535).num keep 2 65535).num keep 2 65535).b := b3
    rw [b1, b2, b3]
    simp only [List.append_assoc]
    rfl
theorem owns_stay {keep : Bool} : ∀ (l : List Nat) (q : Pol × St) {r : Nat}, r ∉ l → (l.foldl (ownRd keep) q).1.own r = q.1.own r
  | [], _, _, _ => rfl
  | x :: l, q, r, h => by
    simp only [List.mem_cons, not_or] at h
    rw [List.foldl_cons, owns_stay l (ownRd keep q x) h.2]
    exact upd_ne _ h.1
theorem owns_keep {keep : Bool} : ∀ (l : List Nat) (q : Pol × St), (l.foldl (ownRd keep) q).1.live = q.1.live ∧ (l.foldl (ownRd keep) q).1.ls = q.1.ls ∧ (l.foldl (ownRd keep) q).1.li = q.1.li ∧ (l.foldl (ownRd keep) q).1.acts = q.1.acts ∧ (l.foldl (ownRd keep) q).1.active = q.1.active
  | [], _ => ⟨rfl, rfl, rfl, rfl, rfl⟩
  | x :: l, q => by rw [List.foldl_cons]; exact owns_keep l (ownRd keep q x)
theorem owns_fwd {keep : Bool} : ∀ (l : List Nat) (q : Pol × St), l.Nodup → (l.foldl (ownRd keep) q).2.e = 0 → q.2.e = 0 ∧ q.2.b = l.flatMap (fun t => numB ((l.foldl (ownRd keep) q).1.own t) 1) ++ (l.foldl (ownRd keep) q).2.b
  | [], q, _, h => ⟨h, rfl⟩
  | r :: l, q, hn, h => by
    rw [List.nodup_cons] at hn
    rw [List.foldl_cons] at h ⊢
    obtain ⟨a, b⟩ := owns_fwd l (ownRd keep q r) hn.2 h
    have c := owns_stay (keep := keep) l (ownRd keep q r) hn.1
    rw [List.flatMap_cons, List.append_assoc, ← b, c]
    have hr : (ownRd keep q r).1.own r = (q.2.nv 1 16).toNat := upd_at _ _ _
    rw [hr]
    have a : (q.2.num keep (1 : Nat) 16).e = 0 := a
    obtain ⟨a1, b1⟩ := num_fwd (by omega) a
    exact ⟨a1, b1⟩
theorem tags_fwd {keep : Bool} {s : St} (h : (tagsRd keep s).2.e = 0) : s.b = polB (tagsRd keep s).1 ++ (tagsRd keep s).2.b := by
  have hnd : (List.range 16).Nodup := List.nodup_range
  have hnb : ∀ n, (bitsN n).Nodup := fun n => List.Pairwise.filter _ List.nodup_range
  have hT : tagsRd keep s = (List.range 16).foldl (ownRd keep) (setActive (rolesRd keep s).1 ((rolesRd keep s).2.nv 2 65535).toNat, (rolesRd keep s).2.num keep 2 65535) := rfl
  have hR : rolesRd keep s = (bitsN (s.nv 2 65535).toNat).foldl (recRd keep) (setLive zeroP (s.nv 2 65535).toNat, s.num keep 2 65535) := rfl
  have hk := owns_keep (keep := keep) (List.range 16) (setActive (rolesRd keep s).1 ((rolesRd keep s).2.nv 2 65535).toNat, (rolesRd keep s).2.num keep 2 65535)
  rw [hT] at h
  obtain ⟨a, b⟩ := owns_fwd _ _ hnd h
  rw [← hT] at b hk
  have a : ((rolesRd keep s).2.num keep (2 : Nat) 65535).e = 0 := a
  obtain ⟨a2, b2⟩ := num_fwd (by omega) a
  have hlv : (rolesRd keep s).1.live = (s.nv 2 65535).toNat := rolesRd_live _ _
  have a2' := a2
  rw [hR] at a2'
  obtain ⟨a3, b3⟩ := recs_fwd _ _ (hnb _) a2'
  rw [← hR] at b3
  have a3 : (s.num keep (2 : Nat) 65535).e = 0 := a3
  obtain ⟨-, b4⟩ := num_fwd (by omega) a3
  have b4 : s.b = numB (s.nv 2 65535).toNat 2 ++ (s.num keep 2 65535).b := b4
  have b3 : (s.num keep 2 65535).b = (bitsN (s.nv 2 65535).toNat).flatMap (recB (rolesRd keep s).1) ++ (rolesRd keep s).2.b := b3
  have b2 : (rolesRd keep s).2.b = numB ((rolesRd keep s).2.nv 2 65535).toNat 2 ++ ((rolesRd keep s).2.num keep 2 65535).b := b2
  have b : ((rolesRd keep s).2.num keep 2 65535).b = ownsB (tagsRd keep s).1 16 ++ (tagsRd keep s).2.b := b
  obtain ⟨k1, k2, k3, k4, k5⟩ := hk
  have hrec : recB (tagsRd keep s).1 = recB (rolesRd keep s).1 := funext fun r => by
    unfold recB
    rw [k2, k3, k4]
    rfl
  unfold polB
  rw [hrec, k1, k5]
  show s.b = numB (rolesRd keep s).1.live 2 ++ (bitsN (rolesRd keep s).1.live).flatMap (recB (rolesRd keep s).1) ++ numB ((rolesRd keep s).2.nv 2 65535).toNat 2 ++ ownsB (tagsRd keep s).1 16 ++ (tagsRd keep s).2.b
  rw [hlv, b4, b3, b2, b]
  simp only [List.append_assoc]
theorem polRd_fwd {keep : Bool} {s : St} (h : (polRd keep s).2.e = 0) : s.b = polB (polRd keep s).1 ++ (polRd keep s).2.b := by
  have hc : (chkRd (tagsRd keep s)).e = 0 := by
    unfold polRd at h
    split at h
    · assumption
    · exact h
  unfold polRd
  rw [if_pos hc]
  have ht : (tagsRd keep s).2.e = 0 ∧ chkRd (tagsRd keep s) = (tagsRd keep s).2 := by
    unfold chkRd at hc ⊢
    split at hc
    · rename_i hh
      have hc : firstE (tagsRd keep s).2.e 3 = 0 := hc
      rw [hh.1] at hc
      exact absurd hc (by decide)
    · rename_i hh
      exact ⟨hc, if_neg hh⟩
  rw [ht.2]
  exact tags_fwd ht.1
end Go.Ab.S
