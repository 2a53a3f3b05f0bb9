/- What is undone may be. No condition. -/
import Derived.Test.YtidmpmdhgiopgaaDoorLUA
set_option linter.unusedSimpArgs false
set_option linter.unusedVariables false
namespace Go.Ab.S
open Go Go.Ab Go.Proofs
attribute [local irreducible] SemS
set_option maxRecDepth 100000
/-! ### The calls at the end of each statement of layer 33 -/
def vo : Ob := ⟨4, 0, 2, 0, 4, 0, 0, false, 0, 0, 0, [], false, ⟨1, [⟨0, 0, 4, 0, 0, 0, []⟩], [], []⟩⟩
def vp : Ob := ⟨0, 0, 1, 0, 1, 0, 1, true, 0, 0, 0, [], false, Bx.emp⟩
def vp2 : Ob := { vp with ws := 4 }
def vq : Ob := ⟨0, 0, 1, 0, 1, 0, 0, false, 0, 0, 0, [], false, Bx.emp⟩
def vr : Ob := ⟨0, 0, 1, 0, 4, 0, 0, false, 0, 0, 0, [], false, Bx.emp⟩
/-! ### What is undone may be -/
theorem fine_good {o : Ob} (h : o.fine = true) (hk : o.k = 2) : o.bx.Good := by
  unfold Ob.fine Ob.kindB at h
  simp only [Bool.and_eq_true] at h
  have h2 := h.2.2.2.2
  rw [if_neg (by omega), if_pos hk] at h2
  simp only [Bool.and_eq_true] at h2
  exact Bx.fine_iff.1 h2.2.2.2
theorem bx_lim {cs : List PV} (h : wt shBx cs) : ∀ b : Bx, cs = b.row → b.len < 2 ^ 61 := by
  obtain ⟨a, _, rfl, -, ⟨next, rfl, hn⟩, b, _, rfl, -, ⟨q, rfl, hql, -, hq⟩, c, _, rfl, -, ⟨x, rfl, hxl, -, hx⟩, d, _, rfl, -, ⟨y, rfl, hyl, -, hy⟩, rfl⟩ := h
  intro b hb
  obtain ⟨n, q', x', y'⟩ := b
  have hb : [PV.int .i64 next, .sl q, .sl x, .sl y] = [.int .i64 n, .sl (msgs q'), .sl (msgs x'), .sl (msgs y')] := hb
  simp only [List.cons.injEq, PV.sl.injEq, and_true] at hb
  obtain ⟨-, rfl, rfl, rfl⟩ := hb
  rw [msgs_len] at hql hxl hyl
  have h1 : q'.length * 56 ≤ 0x7ffffffff000 := hql
  have h2 : x'.length * 56 ≤ 0x7ffffffff000 := hxl
  have h3 : y'.length * 56 ≤ 0x7ffffffff000 := hyl
  show q'.length + x'.length + y'.length < _
  omega
theorem ob_lim {cs : List PV} (h : wt shOb cs) : ∃ o : Ob, cs = o.row ∧ o.Ok ∧ o.Lim := by
  obtain ⟨a, _, rfl, -, hid, b, _, rfl, -, hl, c, _, rfl, -, ⟨st, rfl, hst⟩, d, _, rfl, -, ⟨sw, rfl⟩, e, _, rfl, -, hw, f, _, rfl, -, ⟨role, rfl, hrole⟩, g, _, rfl, -, ⟨buf, rfl, hbuf⟩, h', _, rfl, -, ⟨dead, rfl⟩, j, _, rfl, -, hbx, rfl⟩ := h
  obtain ⟨ids, idi, k, n, rfl, h1, h2, h3, h4⟩ := id_of hid
  obtain ⟨ls, li, rfl, h5, h6⟩ := lab_of hl
  obtain ⟨ws, wi, rfl, h7, h8⟩ := lab_of hw
  have hbl := bx_lim hbx
  obtain ⟨bx, rfl, hb⟩ := bx_of hbx
  exact ⟨⟨ids, idi, k, n, ls, li, st, sw, ws, wi, role, buf, dead, bx⟩, rfl, ⟨h1, h2, h3, h4, h5, h6, i64_of hst, h7, h8, i64_of hrole, hb⟩, ⟨hbl bx rfl, by have : buf.length ≤ 0x7ffffffff000 := hbuf; show buf.length < _; omega⟩⟩
end Go.Ab.S
