/- What the abstract values say of memory: the relations, and what keeps them. No condition. -/
import Derived.Test.YteipepbijfdciaaAb1
import Derived.Laws.AppendOwn
import Derived.Laws.CopyRow
import Derived.Laws.MakeOwn
import Derived.Laws.OwnMore
import Derived.Laws.Rows
import Derived.Laws.StructEq
import Derived.Laws.Tables
import Derived.Laws.BytesString
import Derived.Laws.IdiomStrings
import Derived.Lib.SliceRun
import Derived.WalkSpells
set_option linter.unusedSimpArgs false
set_option linter.unusedVariables false
namespace Go.Ab
open Go

inductive F2 {α β : Type} (R : α → β → Prop) : List α → List β → Prop
  | nil : F2 R [] []
  | cons {a : α} {b : β} {as : List α} {bs : List β} (h : R a b) (t : F2 R as bs) : F2 R (a :: as) (b :: bs)

namespace F2
variable {α β : Type} {R S : α → β → Prop}
theorem imp {as : List α} {bs : List β} (h : F2 R as bs) (i : ∀ a b, R a b → S a b) : F2 S as bs := by
  induction h with
  | nil => exact .nil
  | cons h _ ih => exact .cons (i _ _ h) ih
theorem len {as : List α} {bs : List β} (h : F2 R as bs) : as.length = bs.length := by
  induction h with
  | nil => rfl
  | cons _ _ ih => simp [ih]
theorem get {as : List α} {bs : List β} (h : F2 R as bs) : ∀ {i : Nat} {a : α}, as[i]? = some a → ∃ b, bs[i]? = some b ∧ R a b := by
  induction h with
  | nil => intro i a h; simp at h
  | cons h _ ih =>
    intro i a hi
    cases i with
    | zero => simp at hi; subst hi; exact ⟨_, rfl, h⟩
    | succ i => simp at hi; obtain ⟨b, hb, hr⟩ := ih hi; exact ⟨b, by simpa using hb, hr⟩
theorem of_get {as : List α} {bs : List β} (hl : as.length = bs.length) (h : ∀ (i : Nat) (a : α) (b : β), as[i]? = some a → bs[i]? = some b → R a b) : F2 R as bs := by
  induction as generalizing bs with
  | nil => cases bs with
    | nil => exact .nil
    | cons b bs => simp at hl
  | cons a as ih => cases bs with
    | nil => simp at hl
    | cons b bs => exact .cons (h 0 a b rfl rfl) (ih (by simpa using hl) fun i x y hx hy => h (i + 1) x y (by simpa using hx) (by simpa using hy))
theorem app {as as' : List α} {bs bs' : List β} (h : F2 R as bs) (k : F2 R as' bs') : F2 R (as ++ as') (bs ++ bs') := by
  induction h with
  | nil => exact k
  | cons h _ ih => exact .cons h ih
theorem take {as : List α} {bs : List β} (h : F2 R as bs) (n : Nat) : F2 R (as.take n) (bs.take n) := by
  induction h generalizing n with
  | nil => simpa using .nil
  | cons h _ ih => cases n with
    | zero => exact .nil
    | succ n => exact .cons h (ih n)
theorem drop {as : List α} {bs : List β} (h : F2 R as bs) (n : Nat) : F2 R (as.drop n) (bs.drop n) := by
  induction h generalizing n with
  | nil => simpa using .nil
  | cons h t ih => cases n with
    | zero => exact .cons h t
    | succ n => exact ih n
theorem mapl {γ : Type} {f : γ → α} {as : List γ} {bs : List β} : F2 R (as.map f) bs ↔ F2 (fun a b => R (f a) b) as bs := by
  constructor
  · intro h
    induction as generalizing bs with
    | nil => cases h; exact .nil
    | cons a as ih => cases h with | cons h t => exact .cons h (ih t)
  · intro h
    induction h with
    | nil => exact .nil
    | cons h _ ih => exact .cons h ih
end F2

/-- Cells that will never be written. -/
abbrev Cl := Nat → Nat → Prop

inductive Rp (F : Cl) (w : World) : PV → Value → Prop
  | int (k : IntKind) (n : Int) : Rp F w (.int k n) (.int k n)
  | bool (b : Bool) : Rp F w (.bool b) (.bool b)
  | str (s : ByteArray) : Rp F w (.str s.data.toList) (.string s)
  | sl0 (a : Option Addr) (cap : Nat) : Rp F w (.sl []) (.slice a 0 cap)
  | sl (es : List (List PV)) (b o cap sz : Nat) (hcap : es.length ≤ cap) (hsz : 0 < sz) (hrow : ∀ (i : Nat) (r : List PV), es[i]? = some r → r.length = sz)
      (hF : ∀ i j, i < es.length → j < sz → F b (o + i * sz + j) ∧ (w.cell? ⟨b, o + i * sz + j, none⟩).isSome)
      (hR : ∀ (i : Nat) (r : List PV) (j : Nat) (c : PV), es[i]? = some r → r[j]? = some c → Rp F w c ((w.cell? ⟨b, o + i * sz + j, none⟩).getD undef)) :
      Rp F w (.sl es) (.slice (some ⟨b, o, none⟩) es.length cap)

/-- Cells from an address on. -/
def At (F : Cl) (w : World) (b o : Nat) (cs : List PV) : Prop :=
  ∀ (j : Nat) (c : PV), cs[j]? = some c → F b (o + j) ∧ ∃ v, w.cell? ⟨b, o + j, none⟩ = some v ∧ Rp F w c v

/-- A slice's elements in frozen memory. -/
def SlAt (F : Cl) (w : World) (es : List (List PV)) (a : Option Addr) : Prop :=
  es = [] ∨ ∃ b o sz, a = some ⟨b, o, none⟩ ∧ 0 < sz ∧ (∀ (i : Nat) (r : List PV), es[i]? = some r → r.length = sz ∧ At F w b (o + i * sz) r)

/-- Memory goes on: what is frozen stays. -/
structure Keeps (F F' : Cl) (w w' : World) : Prop where
  mono : ∀ b o, F b o → F' b o
  froz : ∀ b o, F b o → w'.cell? ⟨b, o, none⟩ = w.cell? ⟨b, o, none⟩

theorem Keeps.refl (F : Cl) (w : World) : Keeps F F w w := ⟨fun _ _ h => h, fun _ _ _ => rfl⟩
theorem Keeps.trans {F F' F'' : Cl} {w w' w'' : World} (h : Keeps F F' w w') (k : Keeps F' F'' w' w'') : Keeps F F'' w w'' :=
  ⟨fun b o f => k.mono b o (h.mono b o f), fun b o f => (k.froz b o (h.mono b o f)).trans (h.froz b o f)⟩

theorem Rp.keeps {F F' : Cl} {w w' : World} (h : Keeps F F' w w') {p : PV} {v : Value} (r : Rp F w p v) : Rp F' w' p v := by
  induction r with
  | int k n => exact .int k n
  | bool b => exact .bool b
  | str s => exact .str s
  | sl0 a cap => exact .sl0 a cap
  | sl es b o cap sz hcap hsz hrow hF hR ih =>
    refine .sl es b o cap sz hcap hsz hrow (fun i j hi hj => ?_) (fun i r j c hr hc => ?_)
    · obtain ⟨h1, h2⟩ := hF i j hi hj
      exact ⟨h.mono _ _ h1, by rw [h.froz _ _ h1]; exact h2⟩
    · have hi : i < es.length := (List.getElem?_eq_some_iff.1 hr).1
      have hj : j < sz := by have := (List.getElem?_eq_some_iff.1 hc).1; rw [hrow i r hr] at this; exact this
      rw [h.froz _ _ (hF i j hi hj).1]
      exact ih i r j c hr hc

theorem At.keeps {F F' : Cl} {w w' : World} (h : Keeps F F' w w') {b o : Nat} {cs : List PV} (r : At F w b o cs) : At F' w' b o cs := by
  intro j c hc
  obtain ⟨h1, v, h2, h3⟩ := r j c hc
  exact ⟨h.mono _ _ h1, v, by rw [h.froz _ _ h1]; exact h2, h3.keeps h⟩

theorem SlAt.keeps {F F' : Cl} {w w' : World} (h : Keeps F F' w w') {es : List (List PV)} {a : Option Addr} (r : SlAt F w es a) : SlAt F' w' es a := by
  rcases r with r | ⟨b, o, sz, ha, hs, hr⟩
  · exact .inl r
  · exact .inr ⟨b, o, sz, ha, hs, fun i r hi => ⟨(hr i r hi).1, (hr i r hi).2.keeps h⟩⟩

theorem Rp.of_slAt {F : Cl} {w : World} {es : List (List PV)} {a : Option Addr} {n cap : Nat} (h : SlAt F w es a) (hn : n = es.length) (hc : n ≤ cap) : Rp F w (.sl es) (.slice a n cap) := by
  subst hn
  rcases h with rfl | ⟨b, o, sz, rfl, hs, hr⟩
  · exact .sl0 a cap
  · refine .sl es b o cap sz hc hs (fun i r hi => (hr i r hi).1) (fun i j hi hj => ?_) (fun i r j c hr' hc' => ?_)
    · have he : es[i]? = some es[i] := List.getElem?_eq_getElem hi
      obtain ⟨hl, ha⟩ := hr i _ he
      have hj' : j < es[i].length := by rw [hl]; exact hj
      obtain ⟨h1, v, h2, _⟩ := ha j _ (List.getElem?_eq_getElem hj')
      exact ⟨h1, by rw [h2]; rfl⟩
    · obtain ⟨_, ha⟩ := hr i r hr'
      obtain ⟨_, v, h2, h3⟩ := ha j c hc'
      rw [h2]; exact h3

theorem Rp.slAt {F : Cl} {w : World} {es : List (List PV)} {v : Value} (h : Rp F w (.sl es) v) : ∃ a cap, v = .slice a es.length cap ∧ es.length ≤ cap ∧ SlAt F w es a := by
  cases h with
  | sl0 a cap => exact ⟨a, cap, rfl, Nat.zero_le _, .inl rfl⟩
  | sl _ b o cap sz hcap hsz hrow hF hR =>
    refine ⟨_, cap, rfl, hcap, .inr ⟨b, o, sz, rfl, hsz, fun i r hr => ⟨hrow i r hr, fun j c hc => ?_⟩⟩⟩
    have hi : i < es.length := (List.getElem?_eq_some_iff.1 hr).1
    have hj : j < sz := by have := (List.getElem?_eq_some_iff.1 hc).1; rw [hrow i r hr] at this; exact this
    obtain ⟨h1, h2⟩ := hF i j hi hj
    obtain ⟨x, hx⟩ := Option.isSome_iff_exists.1 h2
    have := hR i r j c hr hc
    rw [hx] at this
    exact ⟨h1, x, hx, this⟩

/-- Which block of memory an abstract one is. -/
abbrev Pl := Id → Option Nat

def Blk.isRow : Blk → Bool
  | .row _ | .mrow _ => true
  | _ => false

/-- A slice that its block's owner may append to. -/
def OsV (φ : Pl) (w : World) (id : Id) (sz n : Nat) (x : Value) : Prop :=
  (n = 0 ∧ ∃ a, x = .slice a 0 0) ∨ ∃ r cap e k, φ id = some r ∧ x = .slice (some ⟨r, 0, none⟩) n cap ∧ n ≤ cap ∧ cap ≤ maxLen ∧ w.shape? r = some (e, k) ∧ k = cap * sz

def CR (φ : Pl) (H : Hp) (F : Cl) (w : World) : C → Value → Prop
  | .p v, x => Rp F w v x
  | .ptr id o, x => ∃ b r, H.get id = some b ∧ b.isRow = true ∧ φ id = some r ∧ x = .pointer (some ⟨r, o, none⟩)
  | .ap id n i o, x => ∃ sz fz es b k, H.get id = some (.arr sz fz es) ∧ n ≤ es.length ∧ x = .pointer (some ⟨b, k, none⟩) ∧ (n = es.length → φ id = some b ∧ k = i * sz + o)
  | .rp cs, x => ∃ b o, x = .pointer (some ⟨b, o, none⟩) ∧ At F w b o cs
  | .nilp, x => x = .pointer none
  | .os id n, x => ∃ sz fz es, H.get id = some (.arr sz fz es) ∧ n ≤ es.length ∧ (n = es.length → OsV φ w id sz n x)
  | .nils, x => x = .slice none 0 0
  | .ti es, x => ∃ a, x = .slice a es.length es.length ∧ SlAt F w es a
  | .fn g caps, x => ∃ cv : List Value, x = .func (.func g) #[] cv.toArray ∧
      F2 (fun id v => ∃ b r, H.get id = some b ∧ b.isRow = true ∧ φ id = some r ∧ v = .pointer (some ⟨r, 0, none⟩)) caps cv
  | .nilf, x => x = .nilFunc

def Flat (x : Value) : Prop := x.oneCell' = true

inductive AR1 (φ : Pl) (H : Hp) (F : Cl) (w : World) : AV → Value → Prop
  | un (x : Value) : AR1 φ H F w .un x
  | c {c : C} {x : Value} (h : CR φ H F w c x) (hx : Flat x) : AR1 φ H F w (.c c) x
  | agg {cs : List PV} {xs : List Value} (h : F2 (Rp F w) cs xs) : AR1 φ H F w (.agg cs) (.agg xs.toArray)
  | mg {cs : List C} {xs : List Value} (h : F2 (fun c x => CR φ H F w c x ∧ Flat x) cs xs) : AR1 φ H F w (.mg cs) (.agg xs.toArray)

inductive AR (φ : Pl) (H : Hp) (F : Cl) (w : World) : AV → Value → Prop
  | one {v : AV} {x : Value} (h : AR1 φ H F w v x) : AR φ H F w v x
  | tup {vs : List AV} {xs : List Value} (h : F2 (AR1 φ H F w) vs xs) : AR φ H F w (.tup vs) (.tuple xs.toArray)

/-- The cells of a block in memory. -/
def Own (w : World) (r : Nat) (c : Array Value) : Prop := ∃ e, w.heap[r]? = some (.cells c e (0, 0))

def BR (φ : Pl) (H : Hp) (F : Cl) (w : World) (id : Id) : Blk → Prop
  | .row cs => ∃ r c, φ id = some r ∧ Own w r c ∧ (∀ o, ¬ F r o) ∧ F2 (Rp F w) cs c.toList
  | .mrow cs => ∃ r c, φ id = some r ∧ Own w r c ∧ (∀ o, ¬ F r o) ∧ F2 (fun u x => CR φ H F w u x ∧ Flat x) cs c.toList
  | .arr sz fz es => 0 < sz ∧ (∀ (i : Nat) (r : List PV), es[i]? = some r → r.length = sz) ∧
      ((φ id = none ∧ es = []) ∨ ∃ r c, φ id = some r ∧ Own w r c ∧ (∃ cap, c.size = cap * sz ∧ cap ≤ maxLen) ∧ es.length * sz ≤ c.size ∧
        (∀ o, F r o → fz = true ∧ o < es.length * sz) ∧ (fz = true → ∀ o, o < es.length * sz → F r o) ∧
        (∀ (i : Nat) (q : List PV) (j : Nat) (u : PV), es[i]? = some q → q[j]? = some u → ∃ x, c[i * sz + j]? = some x ∧ Rp F w u x))
  | .hole => φ id = none

structure SRel (G : Gl) (φ : Pl) (H : Hp) (F : Cl) (w : World) : Prop where
  inj : ∀ i j r, φ i = some r → φ j = some r → i = j
  dom : ∀ i r, φ i = some r → r < w.heap.size
  has : ∀ i r, φ i = some r → (H.get i).isSome
  blk : ∀ id b, H.get id = some b → BR φ H F w id b
  glob : ∀ g cs, G g = some cs → At F w g 0 cs
  fin : ∀ b o, F b o → b < w.heap.size

/-- How the heap of abstract blocks goes on. -/
def BE (φ φ' : Pl) (id : Id) : Blk → Blk → Prop
  | .row _, .row _ | .row _, .mrow _ | .mrow _, .row _ | .mrow _, .mrow _ => φ' id = φ id
  | .arr sz fz es, .arr sz' fz' es' => sz' = sz ∧ es.length ≤ es'.length ∧ (es'.length = es.length → φ' id = φ id) ∧ (fz = true → fz' = true)
  | .hole, _ => True
  | _, _ => False

structure Evo (φ : Pl) (H : Hp) (F : Cl) (w : World) (φ' : Pl) (H' : Hp) (F' : Cl) (w' : World) : Prop where
  os : w'.os = w.os
  tape : w'.tape = w.tape
  output : w'.output = w.output
  size : w.heap.size ≤ w'.heap.size
  keep : ∀ r, r < w.heap.size → (∀ id, φ id ≠ some r) → w'.heap[r]? = w.heap[r]?
  kp : Keeps F F' w w'
  newF : ∀ b o, F' b o → F b o ∨ (∃ id, φ id = some b) ∨ w.heap.size ≤ b
  new : ∀ id r, φ' id = some r → φ id = some r ∨ w.heap.size ≤ r
  be : ∀ id b, H.get id = some b → ∃ b', H'.get id = some b' ∧ BE φ φ' id b b'
  shp : ∀ r, r < w.heap.size → w'.shape? r = w.shape? r
  npar : H'.par.length = H.par.length

theorem BE.refl (φ : Pl) (id : Id) (b : Blk) : BE φ φ id b b := by
  cases b <;> simp [BE]

theorem BE.trans {φ φ' φ'' : Pl} {id : Id} {a b c : Blk} (h : BE φ φ' id a b) (k : BE φ' φ'' id b c) : BE φ φ'' id a c := by
  cases a <;> cases b <;> cases c <;> simp only [BE] at * <;> try exact k.trans h
  obtain ⟨h1, h2, h3, h4⟩ := h
  obtain ⟨k1, k2, k3, k4⟩ := k
  exact ⟨k1.trans h1, Nat.le_trans h2 k2, fun e => (k3 (by omega)).trans (h3 (by omega)), fun e => k4 (h4 e)⟩

theorem Evo.refl (φ : Pl) (H : Hp) (F : Cl) (w : World) : Evo φ H F w φ H F w where
  os := rfl
  tape := rfl
  output := rfl
  size := Nat.le_refl _
  keep := fun _ _ _ => rfl
  kp := .refl F w
  newF := fun _ _ h => .inl h
  new := fun _ _ h => .inl h
  be := fun id b h => ⟨b, h, BE.refl φ id b⟩
  shp := fun _ _ => rfl
  npar := rfl

theorem Evo.trans {φ φ' φ'' : Pl} {H H' H'' : Hp} {F F' F'' : Cl} {w w' w'' : World} (h : Evo φ H F w φ' H' F' w') (k : Evo φ' H' F' w' φ'' H'' F'' w'') : Evo φ H F w φ'' H'' F'' w'' where
  os := k.os.trans h.os
  tape := k.tape.trans h.tape
  output := k.output.trans h.output
  size := Nat.le_trans h.size k.size
  keep := fun r hr hn => (k.keep r (Nat.lt_of_lt_of_le hr h.size) fun id e => by
    rcases h.new id r e with e | e
    · exact hn id e
    · omega).trans (h.keep r hr hn)
  kp := h.kp.trans k.kp
  newF := fun b o f => by
    rcases k.newF b o f with f | ⟨id, e⟩ | e
    · exact h.newF b o f
    · rcases h.new id b e with e | e
      · exact .inr (.inl ⟨id, e⟩)
      · exact .inr (.inr e)
    · exact .inr (.inr (Nat.le_trans h.size e))
  new := fun id r e => by
    rcases k.new id r e with e | e
    · exact h.new id r e
    · exact .inr (Nat.le_trans h.size e)
  be := fun id b hb => by
    obtain ⟨b', hb', e⟩ := h.be id b hb
    obtain ⟨b'', hb'', e'⟩ := k.be id b' hb'
    exact ⟨b'', hb'', e.trans e'⟩
  shp := fun r hr => (k.shp r (Nat.lt_of_lt_of_le hr h.size)).trans (h.shp r hr)
  npar := k.npar.trans h.npar

theorem lt_of_shape {w : World} {r : Nat} {s : TypeId × Nat} (h : w.shape? r = some s) : r < w.heap.size := by
  unfold World.shape? at h
  cases e : w.heap[r]? with
  | none => simp [e] at h
  | some o => exact (Array.getElem?_eq_some_iff.1 e).1

section
variable {φ φ' : Pl} {H H' : Hp} {F F' : Cl} {w w' : World}

theorem Evo.row (E : Evo φ H F w φ' H' F' w') {id : Id} {b : Blk} (h : H.get id = some b) (hb : b.isRow = true) : ∃ b', H'.get id = some b' ∧ b'.isRow = true ∧ φ' id = φ id := by
  obtain ⟨b', hb', e⟩ := E.be id b h
  cases b <;> cases b' <;> simp_all [BE, Blk.isRow]

theorem Evo.arr (E : Evo φ H F w φ' H' F' w') {id : Id} {sz : Nat} {fz : Bool} {es : List (List PV)} (h : H.get id = some (.arr sz fz es)) :
    ∃ fz' es', H'.get id = some (.arr sz fz' es') ∧ es.length ≤ es'.length ∧ (es'.length = es.length → φ' id = φ id) := by
  obtain ⟨b', hb', e⟩ := E.be id _ h
  cases b' <;> simp only [BE] at e
  obtain ⟨rfl, h2, h3, _⟩ := e
  exact ⟨_, _, hb', h2, h3⟩

theorem OsV.evo (E : Evo φ H F w φ' H' F' w') {id : Id} {sz n : Nat} {x : Value} (hφ : φ' id = φ id) (h : OsV φ w id sz n x) : OsV φ' w' id sz n x := by
  rcases h with h | ⟨r, cap, e, k, h1, h2, h3, h4, h5, h6⟩
  · exact .inl h
  · exact .inr ⟨r, cap, e, k, hφ.trans h1, h2, h3, h4, (E.shp r (lt_of_shape h5)).trans h5, h6⟩

theorem CR.evo (E : Evo φ H F w φ' H' F' w') {c : C} {x : Value} (h : CR φ H F w c x) : CR φ' H' F' w' c x := by
  cases c with
  | p v => exact Rp.keeps E.kp h
  | ptr id o =>
    obtain ⟨b, r, hg, hb, hφ, hx⟩ := h
    obtain ⟨b', hg', hb', hφ'⟩ := E.row hg hb
    exact ⟨b', r, hg', hb', hφ'.trans hφ, hx⟩
  | ap id n i o =>
    obtain ⟨sz, fz, es, b, k, hg, hn, hx, hv⟩ := h
    obtain ⟨fz', es', hg', hl, hφ⟩ := E.arr hg
    refine ⟨sz, fz', es', b, k, hg', Nat.le_trans hn hl, hx, fun e => ?_⟩
    obtain ⟨h1, h2⟩ := hv (by omega)
    exact ⟨(hφ (by omega)).trans h1, h2⟩
  | rp cs =>
    obtain ⟨b, o, hx, ha⟩ := h
    exact ⟨b, o, hx, ha.keeps E.kp⟩
  | nilp => exact h
  | os id n =>
    obtain ⟨sz, fz, es, hg, hn, hv⟩ := h
    obtain ⟨fz', es', hg', hl, hφ⟩ := E.arr hg
    exact ⟨sz, fz', es', hg', Nat.le_trans hn hl, fun e => (hv (by omega)).evo E (hφ (by omega))⟩
  | nils => exact h
  | ti es =>
    obtain ⟨a, hx, hs⟩ := h
    exact ⟨a, hx, hs.keeps E.kp⟩
  | fn g caps =>
    obtain ⟨cv, hx, hc⟩ := h
    refine ⟨cv, hx, hc.imp fun id v ⟨b, r, hg, hb, hφ, hx⟩ => ?_⟩
    obtain ⟨b', hg', hb', hφ'⟩ := E.row hg hb
    exact ⟨b', r, hg', hb', hφ'.trans hφ, hx⟩
  | nilf => exact h

theorem AR1.evo (E : Evo φ H F w φ' H' F' w') {v : AV} {x : Value} (h : AR1 φ H F w v x) : AR1 φ' H' F' w' v x := by
  cases h with
  | un x => exact .un x
  | c h hx => exact .c (h.evo E) hx
  | agg h => exact .agg (h.imp fun _ _ r => r.keeps E.kp)
  | mg h => exact .mg (h.imp fun _ _ r => ⟨r.1.evo E, r.2⟩)

theorem AR.evo (E : Evo φ H F w φ' H' F' w') {v : AV} {x : Value} (h : AR φ H F w v x) : AR φ' H' F' w' v x := by
  cases h with
  | one h => exact .one (h.evo E)
  | tup h => exact .tup (h.imp fun _ _ r => r.evo E)

/-- A block that nothing touched. -/
theorem BR.evo (E : Evo φ H F w φ' H' F' w') {id : Id} {b : Blk} (hφ : φ' id = φ id) (hw : ∀ r, φ id = some r → w'.heap[r]? = w.heap[r]?) (hF : ∀ r o, φ id = some r → (F' r o ↔ F r o))
    (h : BR φ H F w id b) : BR φ' H' F' w' id b := by
  cases b with
  | row cs =>
    obtain ⟨r, c, h1, ⟨e, h2⟩, h3, h4⟩ := h
    exact ⟨r, c, hφ.trans h1, ⟨e, (hw r h1).trans h2⟩, fun o f => h3 o ((hF r o h1).1 f), h4.imp fun _ _ q => q.keeps E.kp⟩
  | mrow cs =>
    obtain ⟨r, c, h1, ⟨e, h2⟩, h3, h4⟩ := h
    exact ⟨r, c, hφ.trans h1, ⟨e, (hw r h1).trans h2⟩, fun o f => h3 o ((hF r o h1).1 f), h4.imp fun _ _ q => ⟨q.1.evo E, q.2⟩⟩
  | arr sz fz es =>
    obtain ⟨h0, h1, h2⟩ := h
    refine ⟨h0, h1, ?_⟩
    rcases h2 with ⟨h2, h3⟩ | ⟨r, c, h2, ⟨e, h3⟩, h4, h5, h6, h7, h8⟩
    · exact .inl ⟨hφ.trans h2, h3⟩
    · refine .inr ⟨r, c, hφ.trans h2, ⟨e, (hw r h2).trans h3⟩, h4, h5, fun o f => h6 o ((hF r o h2).1 f), fun z o ho => (hF r o h2).2 (h7 z o ho), fun i q j u hq hu => ?_⟩
      obtain ⟨x, hx, hr⟩ := h8 i q j u hq hu
      exact ⟨x, hx, hr.keeps E.kp⟩
  | hole => exact hφ.trans h
end
end Go.Ab
