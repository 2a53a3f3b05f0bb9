/- What was stamped, let go or not, and undone, is what it was. No condition. UndoOnes. No condition. -/
import Derived.Test.YtmohadlgjokgmaaLU2
import Derived.Test.YtmohadlgjokgmaaLE1
import Derived.Test.YtmohadlgjokgmaaLU3
set_option linter.unusedSimpArgs false
set_option linter.unusedVariables false
namespace Go.Ab.S
open Go Go.Ab Go.Proofs
attribute [local irreducible] SemS
set_option maxRecDepth 100000
/-! ### The plain law -/
theorem minE_id {e : Int} {m : Msg} (h : m.ep ≤ e) : minE e m = m := by
  unfold minE; rw [if_neg (by omega)]
theorem map_minE {e : Int} {q : List Msg} (h : ∀ m ∈ q, m.ep ≤ e) : q.map (minE e) = q := by
  exact (List.map_congr_left (g := id) fun m hm => minE_id (h m hm)).trans (List.map_id q)
theorem isort_back {l q : List Msg} (p : l.Perm q) (h : Str q) : isort l = q := by
  rw [isort_congr (h.dif.perm p.symm) p, isort_of_str h]
theorem aside_perm0 {b : Bx} (ha : b.a = []) (hh : b.h = []) : b.aside.all.Perm b.q := by
  show ([] ++ isort (b.a ++ b.q) ++ b.h).Perm b.q
  rw [ha, hh, List.append_nil, List.nil_append, List.nil_append]
  exact isort_perm _
theorem put_perm (b : Bx) (m : Msg) {q : List Msg} (p : b.all.Perm q) : (b.put m).all.Perm (q ++ [{ m with no := b.next }]) := by
  have p : (b.q ++ b.a ++ b.h).Perm q := p
  rw [List.append_assoc] at p
  show (b.q ++ [{ m with no := b.next }] ++ b.a ++ b.h).Perm _
  rw [List.append_assoc, List.append_assoc]
  exact List.perm_middle.trans ((List.Perm.cons _ p).trans (List.perm_append_singleton _ _).symm)
theorem str_put {b : Bx} (hg : b.Good) (m : Msg) : Str (b.q ++ [{ m with no := b.next }]) :=
  List.pairwise_append.2 ⟨hg.q, by simp, fun x hx y hy => by rw [List.mem_singleton.1 hy]; exact hg.lt (.inl hx)⟩
/-- What an object that was stamped is, its mailbox anything, undone. -/
theorem undo_stamped {M : Nat → Nat} {o : Ob} (hf : o.fine = true) (ho : o.Ok) (hs : o.swept = false) (b : Bx) : ({ o.stampO M (o.stamp + 1) with bx := b } : Ob).undo M o.stamp = { o with bx := if o.k = 2 then b.restore.each (minE o.stamp) else b } := by
  have hx : o.stampO M (o.stamp + 1) = { o with ws := o.ls, wi := o.li, ls := setN M o.ls, li := setN M o.li, swept := true, stamp := o.stamp + 1, bx := if o.k = 2 then o.bx.aside else o.bx } := by
    unfold Ob.stampO; rw [hs]; rfl
  rw [hx]
  have hw : o.ws = 0 ∧ o.wi = 0 := by
    unfold Ob.fine Ob.wasB at hf
    simp only [Bool.and_eq_true, Bool.or_eq_true, decide_eq_true_eq, hs, Bool.false_eq_true, false_or] at hf
    have := hf.2.2.2.1
    omega
  have hb : (if (!decide (o.k = 1) || touchesB M o.ls o.li) = true then o.ls else setN M o.ls) = o.ls ∧ (if (!decide (o.k = 1) || touchesB M o.ls o.li) = true then o.li else setN M o.li) = o.li := by
    split
    · exact ⟨rfl, rfl⟩
    · rename_i h
      have h : touchesB M o.ls o.li = false := by
        cases ht : touchesB M o.ls o.li with
        | false => rfl
        | true => rw [ht, Bool.or_true] at h; exact absurd rfl h
      obtain ⟨h1, h2⟩ := touches_false h
      exact ⟨setN_same ho.ls h1, setN_same ho.li h2⟩
  obtain ⟨ids, idi, k, n, ls, li, st, sw, ws, wi, role, buf, dead, bx⟩ := o
  dsimp only at hs hw hb ⊢
  unfold Ob.undo Ob.backB
  dsimp only
  rw [Bool.true_and, hb.1, hb.2]
  obtain ⟨rfl, rfl⟩ := hw
  subst hs
  rfl
theorem bx_back {b c : Bx} {e : Int} (hn : c.next = b.next) (p : c.all.Perm b.q) (hg : b.Good) (ha : b.a = []) (hh : b.h = []) (he : ∀ m ∈ b.q, m.ep ≤ e) : c.restore.each (minE e) = b := by
  show (⟨c.next, (isort c.all).map (minE e), [], []⟩ : Bx) = b
  rw [isort_back p hg.q, map_minE he, hn]
  obtain ⟨n, q, a, h⟩ := b
  dsimp only at ha hh
  rw [ha, hh]
theorem bx_back_put {b c : Bx} {e : Int} (hn : c.next = b.next) (p : c.all.Perm b.q) (hg : b.Good) (ha : b.a = []) (hh : b.h = []) (he : ∀ m ∈ b.q, m.ep ≤ e) (data : List UInt8) : (c.put ⟨0, e + 1, 0, 0, 0, 0, data⟩).restore.each (minE e) = b.put ⟨0, e, 0, 0, 0, 0, data⟩ := by
  have p2 := put_perm c ⟨0, e + 1, 0, 0, 0, 0, data⟩ p
  have hs := str_put hg ⟨0, e + 1, 0, 0, 0, 0, data⟩
  rw [← hn] at hs
  show (⟨c.next + 1, (isort (c.put ⟨0, e + 1, 0, 0, 0, 0, data⟩).all).map (minE e), [], []⟩ : Bx) = _
  rw [isort_back p2 hs, List.map_append, map_minE he, hn]
  have hm : [(⟨b.next, e + 1, 0, 0, 0, 0, data⟩ : Msg)].map (minE e) = [⟨b.next, e, 0, 0, 0, 0, data⟩] := by
    show [minE e _] = _
    unfold minE
    dsimp only
    rw [if_pos (by omega)]
  rw [hm]
  obtain ⟨n, q, a, h⟩ := b
  dsimp only at ha hh
  rw [ha, hh]
  rfl
end Go.Ab.S

namespace Go.Ab.S
open Go Go.Ab Go.Proofs
attribute [local irreducible] SemS
set_option maxRecDepth 100000
end Go.Ab.S
