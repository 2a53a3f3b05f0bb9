/- Rows of messages by rising numbers: sorting, putting in, and what a mailbox is. No program in sight. No condition. How messages are sorted. No condition. -/
import Derived.Test.YtidmpmdhgiopgaaDoorLM1
set_option linter.unusedSimpArgs false
set_option linter.unusedVariables false
namespace Go.Ab.S
/-! ### Sorting by insertion -/
/-- A message goes into a row that is written backwards. -/
def insR (m : Msg) : List Msg → List Msg
  | [] => [m]
  | x :: r => if m.no < x.no then x :: insR m r else m :: x :: r
def sortR (r l : List Msg) : List Msg := l.foldl (fun r m => insR m r) r
def isort (l : List Msg) : List Msg := (sortR [] l).reverse
/-- A message goes where its number belongs. -/
def insF (m : Msg) : List Msg → List Msg
  | [] => [m]
  | x :: l => if x.no < m.no then x :: insF m l else m :: x :: l
def both (a b : List Msg) : List Msg := b.foldl (fun out m => insF m out) a
abbrev Le (l : List Msg) : Prop := l.Pairwise fun a b => a.no ≤ b.no
abbrev Str (l : List Msg) : Prop := l.Pairwise fun a b => a.no < b.no
abbrev Dif (l : List Msg) : Prop := l.Pairwise fun a b => a.no ≠ b.no
theorem insR_perm (m : Msg) : ∀ l, (insR m l).Perm (m :: l)
  | [] => .refl _
  | x :: r => by
    unfold insR
    split
    · exact ((insR_perm m r).cons x).trans (.swap m x r)
    · exact .refl _
theorem insF_perm (m : Msg) : ∀ l, (insF m l).Perm (m :: l)
  | [] => .refl _
  | x :: r => by
    unfold insF
    split
    · exact ((insF_perm m r).cons x).trans (.swap m x r)
    · exact .refl _
theorem sortR_perm : ∀ (l r : List Msg), (sortR r l).Perm (l ++ r)
  | [], r => .refl _
  | m :: l, r => (sortR_perm l (insR m r)).trans (((insR_perm m r).append_left l).trans List.perm_middle)
theorem isort_perm (l : List Msg) : (isort l).Perm l := (List.reverse_perm _).trans (by have := sortR_perm l []; rwa [List.append_nil] at this)
theorem both_perm : ∀ (b a : List Msg), (both a b).Perm (a ++ b)
  | [], a => by rw [List.append_nil]; exact .refl _
  | m :: b, a => (both_perm b (insF m a)).trans (((insF_perm m a).append_right b).trans List.perm_middle.symm)
theorem insR_le {m : Msg} : ∀ {r : List Msg}, r.Pairwise (fun a b => b.no ≤ a.no) → (insR m r).Pairwise (fun a b => b.no ≤ a.no)
  | [], _ => by simp [insR]
  | x :: r, h => by
    obtain ⟨h1, h2⟩ := List.pairwise_cons.1 h
    unfold insR
    split
    · rename_i hc
      refine List.pairwise_cons.2 ⟨fun y hy => ?_, insR_le h2⟩
      rcases List.mem_cons.1 ((insR_perm m r).mem_iff.1 hy) with rfl | hy
      · omega
      · exact h1 y hy
    · rename_i hc
      refine List.pairwise_cons.2 ⟨fun y hy => ?_, h⟩
      rcases List.mem_cons.1 hy with rfl | hy
      · omega
      · have := h1 y hy; omega
theorem sortR_le : ∀ {l r : List Msg}, r.Pairwise (fun a b => b.no ≤ a.no) → (sortR r l).Pairwise (fun a b => b.no ≤ a.no)
  | [], _, h => h
  | m :: l, _, h => sortR_le (l := l) (insR_le h)
theorem isort_le (l : List Msg) : Le (isort l) := List.pairwise_reverse.2 (sortR_le .nil)
theorem insF_le {m : Msg} : ∀ {l : List Msg}, Le l → Le (insF m l)
  | [], _ => by simp [insF]
  | x :: r, h => by
    obtain ⟨h1, h2⟩ := List.pairwise_cons.1 h
    unfold insF
    split
    · rename_i hc
      refine List.pairwise_cons.2 ⟨fun y hy => ?_, insF_le h2⟩
      rcases List.mem_cons.1 ((insF_perm m r).mem_iff.1 hy) with rfl | hy
      · omega
      · exact h1 y hy
    · rename_i hc
      refine List.pairwise_cons.2 ⟨fun y hy => ?_, h⟩
      rcases List.mem_cons.1 hy with rfl | hy
      · omega
      · have := h1 y hy; omega
theorem both_le : ∀ {b a : List Msg}, Le a → Le (both a b)
  | [], _, h => h
  | m :: b, _, h => both_le (b := b) (insF_le h)
theorem Str.le {l : List Msg} (h : Str l) : Le l := h.imp fun h => Int.le_of_lt h
theorem Str.dif {l : List Msg} (h : Str l) : Dif l := h.imp fun h => Int.ne_of_lt h
theorem Dif.str {l : List Msg} (h : Dif l) (k : Le l) : Str l := (h.and k).imp fun ⟨h, k⟩ => by omega
theorem Dif.perm {l k : List Msg} (h : Dif l) (p : l.Perm k) : Dif k := (p.pairwise_iff (R := fun a b => a.no ≠ b.no) (fun h => h.symm)).1 h
theorem eq_of_le {l k : List Msg} (hl : Le l) (hk : Le k) (hd : Dif l) (p : l.Perm k) : l = k := by
  refine List.Perm.eq_of_pairwise (le := fun a b : Msg => a.no ≤ b.no) (fun a b ha hb h1 h2 => ?_) hl hk p
  have hb := p.mem_iff.2 hb
  have e : a.no = b.no := by omega
  rcases List.getElem_of_mem ha with ⟨i, hi, rfl⟩
  rcases List.getElem_of_mem hb with ⟨j, hj, rfl⟩
  have hd := List.pairwise_iff_getElem.1 hd
  rcases Nat.lt_trichotomy i j with h | rfl | h
  · exact absurd e (hd i j hi hj h)
  · rfl
  · exact absurd e.symm (hd j i hj hi h)
theorem isort_str {l : List Msg} (h : Dif l) : Str (isort l) := Dif.str (h.perm (isort_perm l).symm) (isort_le l)
theorem isort_congr {l k : List Msg} (h : Dif l) (p : l.Perm k) : isort l = isort k := eq_of_le (isort_le l) (isort_le k) (h.perm (isort_perm l).symm) (((isort_perm l).trans p).trans (isort_perm k).symm)
theorem both3_perm (a b c : List Msg) : (both (both a b) c).Perm (a ++ b ++ c) := (both_perm c _).trans ((both_perm b a).append_right c)
/-! ### Mailboxes -/
def Bx.emp : Bx := ⟨0, [], [], []⟩
def risingB (next : Int) : Int → List Msg → Bool
  | _, [] => true
  | last, m :: l => m.fine && (decide (last < m.no) && (decide (m.no < next) && risingB next m.no l))
def Bx.len (b : Bx) : Nat := b.q.length + b.a.length + b.h.length
def Bx.all (b : Bx) : List Msg := b.q ++ b.a ++ b.h
def Bx.fine (b : Bx) : Bool := decide (b.len ≤ 8) && (decide (0 ≤ b.next) && (decide (b.next ≤ 2147483647) && (risingB b.next (-1) b.q && (risingB b.next (-1) b.a && (risingB b.next (-1) b.h && risingB b.next (-1) (isort b.all))))))
theorem rising_iff {next : Int} : ∀ {l : List Msg} {last : Int}, risingB next last l = true ↔ (∀ m ∈ l, m.fine = true ∧ last < m.no ∧ m.no < next) ∧ Str l
  | [], last => by simp [risingB]
  | m :: l, last => by
    simp only [risingB, Bool.and_eq_true, decide_eq_true_eq, rising_iff (l := l), List.pairwise_cons, List.forall_mem_cons]
    constructor
    · rintro ⟨h1, h2, h3, h4, h5⟩
      exact ⟨⟨⟨h1, h2, h3⟩, fun x hx => ⟨(h4 x hx).1, by have := (h4 x hx).2.1; omega, (h4 x hx).2.2⟩⟩, fun x hx => (h4 x hx).2.1, h5⟩
    · rintro ⟨⟨⟨h1, h2, h3⟩, h4⟩, h5, h6⟩
      exact ⟨h1, h2, h3, fun x hx => ⟨(h4 x hx).1, h5 x hx, (h4 x hx).2.2⟩, h6⟩
theorem rising1_iff {next : Int} {l : List Msg} : risingB next (-1) l = true ↔ (∀ m ∈ l, m.fine = true ∧ m.no < next) ∧ Str l := by
  rw [rising_iff]
  refine and_congr_left fun _ => forall₂_congr fun m _ => ?_
  constructor
  · rintro ⟨h1, -, h2⟩; exact ⟨h1, h2⟩
  · rintro ⟨h1, h2⟩; exact ⟨h1, by have := (Msg.fine_iff.1 h1).1; omega, h2⟩
/-- What a mailbox is that may be. -/
structure Bx.Good (b : Bx) : Prop where
  len : b.len ≤ 8
  lo : 0 ≤ b.next
  hi : b.next ≤ 2147483647
  q : Str b.q
  a : Str b.a
  h : Str b.h
  dif : Dif b.all
  ms : ∀ m ∈ b.all, m.fine = true ∧ m.no < b.next
theorem Bx.fine_iff {b : Bx} : b.fine = true ↔ b.Good := by
  simp only [Bx.fine, Bool.and_eq_true, decide_eq_true_eq, rising1_iff]
  constructor
  · rintro ⟨h1, h2, h3, ⟨h4, h5⟩, ⟨h6, h7⟩, ⟨h8, h9⟩, h10, h11⟩
    exact ⟨h1, h2, h3, h5, h7, h9, h11.dif.perm (isort_perm _), fun m hm => h10 m ((isort_perm _).mem_iff.2 hm)⟩
  · intro h
    have hm : ∀ {l : List Msg}, (∀ m ∈ l, m ∈ b.all) → ∀ m ∈ l, m.fine = true ∧ m.no < b.next := fun hl m hm => h.ms m (hl m hm)
    exact ⟨h.len, h.lo, h.hi, ⟨hm fun m hm => by simp [Bx.all, hm], h.q⟩, ⟨hm fun m hm => by simp [Bx.all, hm], h.a⟩, ⟨hm fun m hm => by simp [Bx.all, hm], h.h⟩, hm fun m hm => (isort_perm _).mem_iff.1 hm, isort_str h.dif⟩
/-- Both ways to look at all messages agree. -/
theorem Bx.fine_both {b : Bx} (hq : risingB b.next (-1) b.q = true) : risingB b.next (-1) (both (both b.q b.a) b.h) = risingB b.next (-1) (isort b.all) := by
  have hs := (rising1_iff.1 hq).2.le
  have p : (both (both b.q b.a) b.h).Perm (isort b.all) := (both3_perm _ _ _).trans (isort_perm _).symm
  rw [Bool.eq_iff_iff]
  constructor
  · intro h
    rw [← eq_of_le (both_le (both_le hs)) (isort_le _) (rising1_iff.1 h).2.dif p]; exact h
  · intro h
    rw [eq_of_le (both_le (both_le hs)) (isort_le _) ((rising1_iff.1 h).2.dif.perm p.symm) p]; exact h
theorem Bx.all_len (b : Bx) : b.all.length = b.len := by simp [Bx.all, Bx.len, Nat.add_assoc]
/-- The same messages, otherwise strewn. -/
theorem Bx.Good.perm {b c : Bx} (h : b.Good) (hn : c.next = b.next) (p : c.all.Perm b.all) (hq : Str c.q) (ha : Str c.a) (hh : Str c.h) : c.Good :=
  ⟨by rw [← c.all_len, p.length_eq, b.all_len]; exact h.len, by rw [hn]; exact h.lo, by rw [hn]; exact h.hi, hq, ha, hh, h.dif.perm p.symm, fun m hm => by rw [hn]; exact h.ms m (p.mem_iff.1 hm)⟩
/-! ### What is done with mailboxes -/
def Bx.aside (b : Bx) : Bx := { b with q := [], a := isort (b.a ++ b.q) }
def Bx.letK (b : Bx) (k : Msg → Bool) : Bx := { b with q := isort (b.q ++ b.a.filter k), h := isort (b.h ++ b.a.filter fun m => !k m), a := [] }
def Bx.restore (b : Bx) : Bx := { b with q := isort b.all, a := [], h := [] }
def Bx.forget (b : Bx) : Bx := { b with h := [] }
def Bx.each (b : Bx) (f : Msg → Msg) : Bx := { b with q := b.q.map f }
def Bx.put (b : Bx) (m : Msg) : Bx := { b with q := b.q ++ [{ m with no := b.next }], next := b.next + 1 }
def Bx.take (b : Bx) : Bx := { b with q := b.q.drop 1 }
theorem dif_of {l k : List Msg} (h : Dif k) (s : l.Sublist k) : Dif l := h.sublist s
theorem Bx.Good.aside_dif {b : Bx} (h : b.Good) : Dif (b.a ++ b.q) := by
  have h1 := dif_of h.dif (show (b.q ++ b.a).Sublist b.all from List.sublist_append_left _ _)
  exact h1.perm List.perm_append_comm
theorem Bx.Good.aside {b : Bx} (h : b.Good) : b.aside.Good := by
  refine h.perm rfl ?_ .nil (isort_str h.aside_dif) h.h
  show ([] ++ isort (b.a ++ b.q) ++ b.h).Perm (b.q ++ b.a ++ b.h)
  exact ((isort_perm _).trans List.perm_append_comm).append_right _
theorem Bx.Good.let_dif {b : Bx} (h : b.Good) (k : Msg → Bool) : Dif (b.q ++ b.a.filter k) ∧ Dif (b.h ++ b.a.filter fun m => !k m) := by
  constructor
  · refine dif_of h.dif ?_
    show (b.q ++ b.a.filter k).Sublist (b.q ++ b.a ++ b.h)
    rw [List.append_assoc]
    exact List.Sublist.append (List.Sublist.refl _) (List.filter_sublist.trans (List.sublist_append_left _ _))
  · have h1 : Dif (b.a ++ b.h) := dif_of h.dif (by show (b.a ++ b.h).Sublist (b.q ++ b.a ++ b.h); rw [List.append_assoc]; exact List.sublist_append_right _ _)
    exact dif_of (h1.perm List.perm_append_comm) (List.Sublist.append (List.Sublist.refl _) List.filter_sublist)
theorem Bx.Good.letK {b : Bx} (h : b.Good) (k : Msg → Bool) : (b.letK k).Good := by
  obtain ⟨h1, h2⟩ := h.let_dif k
  refine h.perm rfl ?_ (isort_str h1) .nil (isort_str h2)
  show (isort (b.q ++ b.a.filter k) ++ [] ++ isort (b.h ++ b.a.filter fun m => !k m)).Perm (b.q ++ b.a ++ b.h)
  rw [List.append_nil, List.append_assoc]
  refine ((isort_perm _).append (isort_perm _)).trans ?_
  rw [List.append_assoc]
  refine List.Perm.append_left b.q ?_
  refine (List.Perm.append_left (b.a.filter k) List.perm_append_comm).trans ?_
  rw [← List.append_assoc]
  exact (List.filter_append_perm k b.a).append_right b.h
theorem Bx.Good.restore {b : Bx} (h : b.Good) : b.restore.Good := by
  refine h.perm rfl ?_ (isort_str h.dif) .nil .nil
  show (isort b.all ++ [] ++ []).Perm b.all
  rw [List.append_nil, List.append_nil]
  exact isort_perm _
theorem Bx.Good.forget {b : Bx} (h : b.Good) : b.forget.Good := by
  have s : b.forget.all.Sublist b.all := by
    show (b.q ++ b.a ++ []).Sublist (b.q ++ b.a ++ b.h)
    exact List.Sublist.append (List.Sublist.refl _) (List.nil_sublist _)
  refine ⟨?_, h.lo, h.hi, h.q, h.a, .nil, dif_of h.dif s, fun m hm => h.ms m (s.subset hm)⟩
  have := h.len
  show b.q.length + b.a.length + 0 ≤ 8
  unfold Bx.len at this; omega
theorem str_map {f : Msg → Msg} (hf : ∀ m, (f m).no = m.no) {l : List Msg} (h : Str l) : Str (l.map f) := by
  unfold Str; rw [List.pairwise_map]; exact h.imp fun h => by rw [hf, hf]; exact h
theorem Bx.Good.each {b : Bx} (h : b.Good) {f : Msg → Msg} (hf : ∀ m, (f m).no = m.no) (hfi : ∀ m ∈ b.q, (f m).fine = true) : (b.each f).Good := by
  have hl := h.len
  refine ⟨by show (b.q.map f).length + _ + _ ≤ 8; rw [List.length_map]; exact hl, h.lo, h.hi, str_map hf h.q, h.a, h.h, ?_, ?_⟩
  · have hd := h.dif
    show Dif (b.q.map f ++ b.a ++ b.h)
    have : (b.q ++ b.a ++ b.h).Pairwise (fun a b => a.no ≠ b.no) := hd
    unfold Dif
    rw [List.append_assoc, List.pairwise_append] at this ⊢
    obtain ⟨h1, h2, h3⟩ := this
    refine ⟨?_, h2, ?_⟩
    · rw [List.pairwise_map]; exact h1.imp fun h => by rw [hf, hf]; exact h
    · intro x hx y hy
      obtain ⟨z, hz, rfl⟩ := List.mem_map.1 hx
      rw [hf]; exact h3 z hz y hy
  · intro m hm
    have hm : m ∈ b.q.map f ++ b.a ++ b.h := hm
    rw [List.append_assoc] at hm
    rcases List.mem_append.1 hm with hm | hm
    · obtain ⟨z, hz, rfl⟩ := List.mem_map.1 hm
      exact ⟨hfi z hz, by show (f z).no < b.next; rw [hf]; exact (h.ms z (by simp [Bx.all, hz])).2⟩
    · exact h.ms m (by simp only [Bx.all, List.append_assoc]; exact List.mem_append.2 (.inr hm))
theorem Bx.Good.lt {b : Bx} (h : b.Good) {m : Msg} (hm : m ∈ b.q ∨ m ∈ b.a ∨ m ∈ b.h) : m.no < b.next := (h.ms m (by simpa [Bx.all] using hm)).2
theorem Bx.Good.put {b : Bx} (h : b.Good) {m : Msg} (hm : m.fine = true) (hl : b.len < 8) (hn : b.next < 2147483647) : (b.put m).Good := by
  have hlo := h.lo
  have hf : ({ m with no := b.next } : Msg).fine = true := by
    rw [Msg.fine_iff] at hm ⊢
    obtain ⟨-, -, h3⟩ := hm
    exact ⟨h.lo, by show b.next ≤ _; omega, h3⟩
  have p : (b.put m).all.Perm ({ m with no := b.next } :: b.all) := by
    show (b.q ++ [{ m with no := b.next }] ++ b.a ++ b.h).Perm (_ :: (b.q ++ b.a ++ b.h))
    rw [List.append_assoc, List.append_assoc, List.append_assoc]
    exact List.perm_middle
  refine ⟨?_, by show 0 ≤ b.next + 1; omega, by show b.next + 1 ≤ _; omega, ?_, h.a, h.h, ?_, ?_⟩
  · rw [← (b.put m).all_len, p.length_eq, List.length_cons, b.all_len]; omega
  · show Str (b.q ++ [_])
    exact List.pairwise_append.2 ⟨h.q, by simp, fun x hx y hy => by rw [List.mem_singleton.1 hy]; exact h.lt (.inl hx)⟩
  · refine Dif.perm (List.pairwise_cons.2 ⟨fun x hx => ?_, h.dif⟩) p.symm
    have := (h.ms x hx).2
    show b.next ≠ x.no
    omega
  · intro x hx
    rcases List.mem_cons.1 (p.mem_iff.1 hx) with rfl | hx
    · exact ⟨hf, by show b.next < b.next + 1; omega⟩
    · exact ⟨(h.ms x hx).1, by have := (h.ms x hx).2; show x.no < b.next + 1; omega⟩
theorem Bx.Good.take {b : Bx} (h : b.Good) : b.take.Good := by
  have s : b.take.all.Sublist b.all := by
    show (b.q.drop 1 ++ b.a ++ b.h).Sublist (b.q ++ b.a ++ b.h)
    exact List.Sublist.append (List.Sublist.append (List.drop_sublist _ _) (List.Sublist.refl _)) (List.Sublist.refl _)
  refine ⟨?_, h.lo, h.hi, h.q.sublist (List.drop_sublist _ _), h.a, h.h, dif_of h.dif s, fun m hm => h.ms m (s.subset hm)⟩
  have := s.length_le
  rw [b.take.all_len, b.all_len] at this
  exact Nat.le_trans this h.len
end Go.Ab.S

namespace Go.Ab.S
open Go Go.Ab Go.Proofs
attribute [local irreducible] SemS
set_option maxRecDepth 100000
def cmpI (a b : Int) : Int := if a < b then -1 else if b < a then 1 else 0
theorem cmp_isNaN_ok (a : Int) : EvP PR G f_cmp_isNaN_int [iv a] (bv false) := by
  refine EvP.of_wpf true hm c_cmp_isNaN_int rfl ?_
  conv => whnf
  show bv (!decide (a = a)) = bv false
  simp
theorem cmp_Compare_ok (a b : Int) : EvP PR G f_cmp_Compare_int [iv a, iv b] (iv (cmpI a b)) := by
  refine EvP.of_wpf true hm c_cmp_Compare_int rfl ?_
  conv => whnf
  unfold cmpI
  by_cases h1 : a < b
  · rw [if_pos h1]
    repeat' ((first | refine brP_t (by assumption) ?_ | refine brP_f (by assumption) ?_ | refine brP_t (decide_eq_true (by omega)) ?_ | refine brP_f (decide_eq_false (by omega)) ?_ | refine brP_t (nd_t (by omega)) ?_ | refine brP_f (nd_f (by omega)) ?_ | refine callK_p (cmp_isNaN_ok _) ?_ | refine callM_p (cmp_isNaN_ok _) rfl ?_ | refine callK_pf rfl (cmp_isNaN_ok _) ?_ | refine wpfS_seq1 ?_ | refine wpfS_go ?_ | fail) <;> conv => whnf)
    rfl
  · rw [if_neg h1]
    by_cases h2 : b < a
    · rw [if_pos h2]
      repeat' ((first | refine brP_t (by assumption) ?_ | refine brP_f (by assumption) ?_ | refine brP_t (decide_eq_true (by omega)) ?_ | refine brP_f (decide_eq_false (by omega)) ?_ | refine brP_t (nd_t (by omega)) ?_ | refine brP_f (nd_f (by omega)) ?_ | refine callK_p (cmp_isNaN_ok _) ?_ | refine callM_p (cmp_isNaN_ok _) rfl ?_ | refine callK_pf rfl (cmp_isNaN_ok _) ?_ | refine wpfS_seq1 ?_ | refine wpfS_go ?_ | fail) <;> conv => whnf)
      rfl
    · rw [if_neg h2]
      repeat' ((first | refine brP_t (by assumption) ?_ | refine brP_f (by assumption) ?_ | refine brP_t (decide_eq_true (by omega)) ?_ | refine brP_f (decide_eq_false (by omega)) ?_ | refine brP_t (nd_t (by omega)) ?_ | refine brP_f (nd_f (by omega)) ?_ | refine callK_p (cmp_isNaN_ok _) ?_ | refine callM_p (cmp_isNaN_ok _) rfl ?_ | refine callK_pf rfl (cmp_isNaN_ok _) ?_ | refine wpfS_seq1 ?_ | refine wpfS_go ?_ | fail) <;> conv => whnf)
      rfl
theorem box_merge_1_ok (a b : Msg) : EvP PR G f_box_merge_1 [.agg a.row, .agg b.row] (iv (cmpI a.no b.no)) := by
  have h := cmp_Compare_ok a.no b.no
  refine EvP.of_wpf true hm c_box_merge_1 rfl ?_
  conv => whnf
  repeat' ((first | refine brP_t (by assumption) ?_ | refine brP_f (by assumption) ?_ | refine brP_t (decide_eq_true (by omega)) ?_ | refine brP_f (decide_eq_false (by omega)) ?_ | refine brP_t (nd_t (by omega)) ?_ | refine brP_f (nd_f (by omega)) ?_ | refine callK_p h ?_ | refine callM_p h rfl ?_ | refine callK_pf rfl h ?_ | refine wpfS_seq1 ?_ | refine wpfS_go ?_ | fail) <;> conv => whnf)
  rfl
theorem get_mid {A B : List Msg} {m : Msg} : (msgs (A ++ m :: B))[A.length]? = some m.row := by
  rw [msgs, List.getElem?_map, List.getElem?_append_right (Nat.le_refl _), Nat.sub_self]; rfl
theorem set_mid {A B : List Msg} {m x : Msg} : (msgs (A ++ m :: B)).set A.length x.row = msgs (A ++ x :: B) := by
  rw [msgs, msgs, ← List.map_set, List.set_append_right _ _ (Nat.le_refl _), Nat.sub_self]; rfl
theorem sortR_take {l : List Msg} {k : Nat} (h : k < l.length) : sortR [] (l.take (k + 1)) = insR l[k] (sortR [] (l.take k)) := by
  rw [List.take_succ_eq_append_getElem h, sortR, List.foldl_append]; rfl
theorem sortR_len (l : List Msg) : (sortR [] l).length = l.length := by
  have := (sortR_perm l []).length_eq
  rwa [List.append_nil] at this
/-- Two neighbours change places. -/
theorem swap_get {r d tl : List Msg} {m x : Msg} {n : Nat} (hn : r.length + (d.length + tl.length) + 2 = n) :
    ∃ ES, msgs ((x :: r).reverse ++ m :: (d ++ tl)) = ES ∧ ES.length = n ∧ ES[r.length + 1]? = some m.row ∧ ES[r.length]? = some x.row ∧ (ES.set (r.length + 1) x.row)[r.length]? = some x.row ∧
      ((ES.set (r.length + 1) x.row).set r.length m.row) = msgs (r.reverse ++ m :: (x :: d ++ tl)) := by
  refine ⟨_, rfl, ?_, ?_, ?_, ?_, ?_⟩
  · rw [msgs_len]; simp; omega
  · have := get_mid (A := (x :: r).reverse) (m := m) (B := d ++ tl)
    rwa [List.length_reverse] at this
  · have := get_mid (A := r.reverse) (m := x) (B := m :: (d ++ tl))
    rw [List.length_reverse] at this
    rw [← this]; simp
  · rw [List.getElem?_set_ne (by omega)]
    have := get_mid (A := r.reverse) (m := x) (B := m :: (d ++ tl))
    rw [List.length_reverse] at this
    rw [← this]; simp
  · have h1 := set_mid (A := (x :: r).reverse) (m := m) (x := x) (B := d ++ tl)
    rw [List.length_reverse, List.length_cons] at h1
    rw [h1]
    have h2 := set_mid (A := r.reverse) (m := x) (x := m) (B := x :: (d ++ tl))
    rw [List.length_reverse] at h2
    rw [show (x :: r).reverse ++ x :: (d ++ tl) = r.reverse ++ x :: (x :: (d ++ tl)) by simp, h2]
    simp
set_option maxHeartbeats 1000000 in
theorem insertion_ok (l : List Msg) (hl : l.length ≤ 100) : EvR PR G f_slices_insertionSortCmpFunc_api_Message [.c (.os (.par 0) l.length), iv 0, iv l.length, .c (.fn f_box_merge_1 [])] ⟨[.arr 7 false (msgs l)], []⟩ (.tup []) ⟨[.arr 7 false (msgs (isort l))], []⟩ := by
  refine EvR.of_wpf false false hm c_slices_insertionSortCmpFunc_api_Message rfl ?_
  refine wpf_seq1 ?_
  conv => whnf
  repeat' ((first | refine brP_t (by assumption) ?_ | refine brP_f (by assumption) ?_ | refine brP_t (decide_eq_true (by omega)) ?_ | refine brP_f (decide_eq_false (by omega)) ?_ | refine brP_t (nd_t (by omega)) ?_ | refine brP_f (nd_f (by omega)) ?_ | refine wpfS_seq1 ?_ | refine wpfS_go ?_ | fail) <;> conv => whnf)
  refine SemS.loopF false hm (σ := Nat) (fun k => [(8, iv k), (0, .c (.os (.par 0) l.length)), (1, iv 0), (2, iv l.length), (3, .c (.fn f_box_merge_1 []))]) (fun k => ⟨[.arr 7 false (msgs ((sortR [] (l.take k)).reverse ++ l.drop k))], []⟩) (fun k => l.length + 1 - k) (fun k => 1 ≤ k ∧ k ≤ l.length + 1) 1 ⟨Nat.le_refl _, by omega⟩ ⟨rfl, rfl, rfl, rfl, rfl, trivial⟩ ?_ ?_
  · cases l with
    | nil => rfl
    | cons m l => rfl
  rintro k ⟨hk1, hk2⟩
  refine wpf_seq1 ?_
  conv => whnf
  try (refine wpfS_seq1 ?_; conv => whnf)
  refine brP_mk (fun h => ?_) (fun h => ?_)
  · have hk : k < l.length := by have := of_decide_eq_true h; omega
    clear h
    have hst := sortR_take hk
    have hR := sortR_len (l.take k)
    rw [List.length_take, Nat.min_eq_left (by omega)] at hR
    have hdl : (l.drop (k + 1)).length + (k + 1) = l.length := by rw [List.length_drop]; omega
    rw [List.drop_eq_getElem_cons hk]
    have hw2 : IntKind.i64.wrap ((k : Int) + 1) = ((k + 1 : Nat) : Int) := by rw [wrap64 (by omega)]; rfl
    generalize hm0 : l[k] = m at *
    generalize hR0 : sortR [] (l.take k) = R at *
    generalize ht0 : l.drop (k + 1) = tl at *
    repeat' ((first | refine brP_t (by assumption) ?_ | refine brP_f (by assumption) ?_ | refine brP_t (decide_eq_true (by omega)) ?_ | refine brP_f (decide_eq_false (by omega)) ?_ | refine brP_t (nd_t (by omega)) ?_ | refine brP_f (nd_f (by omega)) ?_ | refine wpfS_seq1 ?_ | refine wpfS_go ?_ | fail) <;> conv => whnf)
    refine SemS.loopF false hm (σ := List Msg × List Msg) (fun s => [(9, iv s.1.length), (8, iv k), (0, .c (.os (.par 0) l.length)), (1, iv 0), (2, iv l.length), (3, .c (.fn f_box_merge_1 []))]) (fun s => ⟨[.arr 7 false (msgs (s.1.reverse ++ m :: (s.2 ++ tl)))], []⟩) (fun s => s.1.length) (fun s => (insR m s.1).reverse ++ s.2 = (insR m R).reverse ∧ s.1.length + s.2.length = k) (R, []) ⟨by simp, by simp [hR]⟩ ⟨by show iv _ = iv _; rw [hR], rfl, rfl, rfl, rfl, rfl, trivial⟩ rfl ?_
    rintro ⟨r, d⟩ ⟨hi, hr⟩
    dsimp only at hi hr
    cases r with
    | nil =>
      conv => whnf
      repeat' ((first | refine brP_t (by assumption) ?_ | refine brP_f (by assumption) ?_ | refine brP_t (decide_eq_true (by omega)) ?_ | refine brP_f (decide_eq_false (by omega)) ?_ | refine brP_t (nd_t (by omega)) ?_ | refine brP_f (nd_f (by omega)) ?_ | refine wpfS_seq1 ?_ | refine wpfS_go ?_ | fail) <;> conv => whnf)
      rw [hw2]
      refine ⟨k + 1, ⟨by omega, by omega⟩, (show l.length + 1 - (k + 1) < l.length + 1 - k by omega), ⟨rfl, rfl, rfl, rfl, rfl, trivial⟩, ?_⟩
      show (⟨[.arr 7 false (msgs ([] ++ m :: (d ++ tl)))], []⟩ : Hp) = ⟨[.arr 7 false (msgs ((sortR [] (l.take (k + 1))).reverse ++ l.drop (k + 1)))], []⟩
      rw [hst, ht0, ← hi]
      rfl
    | cons x r =>
      have hr' : r.length + 1 + d.length = k := hr
      obtain ⟨ES, hE, hEl, hg1, hg2, hg3, hfin⟩ := swap_get (r := r) (d := d) (tl := tl) (m := m) (x := x) (n := l.length) (by omega)
      have hw : IntKind.i64.wrap (((r.length + 1 : Nat) : Int) - 1) = (r.length : Int) := by rw [wrap64 (by omega)]; omega
      have hc := box_merge_1_ok m x
      have hgt : decide (((r.length + 1 : Nat) : Int) > 0) = true := decide_eq_true (by omega)
      show wpf _ _ _ _ _ [(9, iv ((r.length + 1 : Nat) : Int)), _, _, _, _, _] ⟨[.arr 7 false (msgs ((x :: r).reverse ++ m :: (d ++ tl)))], []⟩ _
      rw [hE]
      unfold cmpI at hc
      by_cases hx : m.no < x.no
      · rw [if_pos hx] at hc
        have hins : insR m (x :: r) = x :: insR m r := if_pos hx
        rw [hins, List.reverse_cons, List.append_assoc] at hi
        conv => whnf
        have hg4 : (ES.set (r.length + 1) (putAt m.row 0 (List.take 7 (List.drop 0 x.row))))[r.length]? = some x.row := hg3
        repeat' ((first | refine brP_t (by assumption) ?_ | refine brP_f (by assumption) ?_ | refine brP_t (decide_eq_true (by omega)) ?_ | refine brP_f (decide_eq_false (by omega)) ?_ | refine brP_t (nd_t (by omega)) ?_ | refine brP_f (nd_f (by omega)) ?_ | ((conv in (opS _ _ _ _) => whnf); rw [Int.toNat_natCast, hg1]) | ((conv in (opM _ _ _ _ _) => whnf); (conv in (opS _ _ _ _) => whnf); rw [Int.toNat_natCast, hg1]) | ((conv in (opS _ _ _ _) => whnf); rw [Int.toNat_natCast, hg2]) | ((conv in (opM _ _ _ _ _) => whnf); (conv in (opS _ _ _ _) => whnf); rw [Int.toNat_natCast, hg2]) | ((rw [hw])) | refine callK_rt (EvP.toR hc _) ?_ | ((conv in (opS _ _ _ _) => whnf); rw [Int.toNat_natCast, hg4]) | ((conv in (opM _ _ _ _ _) => whnf); (conv in (opS _ _ _ _) => whnf); rw [Int.toNat_natCast, hg4]) | (refine gd_mk ?_ ?_; focus (exact decide_eq_true ⟨rfl, Nat.le_refl 7, hEl.symm⟩; done)) | (refine gd_mk ?_ ?_; focus (exact decide_eq_true ⟨by omega, by omega, rfl, by rw [List.length_set]; exact hEl.symm⟩; done)) | (refine gd_mk ?_ ?_; focus (exact decide_eq_true ⟨rfl, Nat.le_refl 7, by rw [List.length_set]; exact hEl.symm⟩; done)) | refine wpfS_seq1 ?_ | refine wpfS_go ?_ | fail) <;> conv => whnf)
        refine ⟨(r, x :: d), ⟨by rw [← hi]; simp, by show r.length + (d.length + 1) = k; omega⟩, (show r.length < r.length + 1 by omega), ⟨rfl, rfl, rfl, rfl, rfl, rfl, trivial⟩, ?_⟩
        show (⟨[.arr 7 false ((ES.set (r.length + 1) x.row).set r.length m.row)], []⟩ : Hp) = _
        rw [hfin]
      · have hins : insR m (x :: r) = m :: x :: r := if_neg hx
        rw [hins] at hi
        rw [if_neg hx] at hc
        have hc2 : ∃ z, EvP PR G f_box_merge_1 [.agg m.row, .agg x.row] (iv z) ∧ decide (z < 0) = false := by
          split at hc
          · exact ⟨_, hc, rfl⟩
          · exact ⟨_, hc, rfl⟩
        clear hc
        obtain ⟨z, hc, hz⟩ := hc2
        conv => whnf
        repeat' ((first | refine brP_t (by assumption) ?_ | refine brP_f (by assumption) ?_ | refine brP_t (decide_eq_true (by omega)) ?_ | refine brP_f (decide_eq_false (by omega)) ?_ | refine brP_t (nd_t (by omega)) ?_ | refine brP_f (nd_f (by omega)) ?_ | ((conv in (opS _ _ _ _) => whnf); rw [Int.toNat_natCast, hg1]) | ((conv in (opM _ _ _ _ _) => whnf); (conv in (opS _ _ _ _) => whnf); rw [Int.toNat_natCast, hg1]) | ((conv in (opS _ _ _ _) => whnf); rw [Int.toNat_natCast, hg2]) | ((conv in (opM _ _ _ _ _) => whnf); (conv in (opS _ _ _ _) => whnf); rw [Int.toNat_natCast, hg2]) | ((rw [hw])) | refine callK_rt (EvP.toR hc _) ?_ | refine wpfS_seq1 ?_ | refine wpfS_go ?_ | fail) <;> conv => whnf)
        rw [hw2]
        refine ⟨k + 1, ⟨by omega, by omega⟩, (show l.length + 1 - (k + 1) < l.length + 1 - k by omega), ⟨rfl, rfl, rfl, rfl, rfl, trivial⟩, ?_⟩
        show (⟨[.arr 7 false ES], []⟩ : Hp) = ⟨[.arr 7 false (msgs ((sortR [] (l.take (k + 1))).reverse ++ l.drop (k + 1)))], []⟩
        rw [hst, ht0, ← hi, ← hE]
        simp
  · have hk : l.length ≤ k := by have := of_decide_eq_false h; omega
    clear h
    conv => whnf
    refine ⟨rfl, ?_⟩
    show (⟨[.arr 7 false (msgs ((sortR [] (l.take k)).reverse ++ l.drop k))], []⟩ : Hp) = _
    rw [List.take_of_length_le hk, List.drop_of_length_le hk, List.append_nil]
    rfl
end Go.Ab.S
