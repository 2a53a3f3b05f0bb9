/- What an operation does to memory, said apart from the rest of memory. No condition. -/
import Derived.Test.YteipepbijfdciaaAb6b
set_option linter.unusedSimpArgs false
set_option linter.unusedVariables false
namespace Go.Ab
open Go

def idsC : C → List Id
  | .ptr i _ => [i]
  | .ap i _ _ _ => [i]
  | .os i _ => [i]
  | .fn _ caps => caps
  | _ => []
def idsA : AV → List Id
  | .c c => idsC c
  | .mg cs => cs.flatMap idsC
  | _ => []

/-- What an operation does to the heap of abstract blocks. -/
inductive Eff where
  | keep
  | set (id : Id) (b : Blk)
  | add (b : Blk)

def Eff.app : Eff → Hp → Hp
  | .keep, H => H
  | .set id b, H => H.set id b
  | .add b, H => H.add b

structure SameLen (H H' : Hp) : Prop where
  par : H'.par.length = H.par.length
  loc : H'.loc.length = H.loc.length

def saM : Option SA → List SA
  | some a => [a]
  | none => []

/-- An operation's operands. -/
def saO : SOp → List SA
  | .move a | .box a | .load _ _ a | .chk a | .un _ a | .cInt _ a | .cStr a | .cBytes a | .cString a | .fld _ a | .fldv _ _ _ a | .ext a _ | .len _ a | .isnil _ a => [a]
  | .pick c a b => [c, a, b]
  | .alloc _ | .lenArr _ => []
  | .build _ ps => ps.map fun q => q.2.2
  | .lit _ ps | .fn _ ps => ps
  | .store _ a b | .bin _ a b | .sh _ a b | .eq _ _ a b | .mkSl _ _ _ a b | .ixArr _ _ a b | .ixSl _ a b | .ixAgg _ _ _ a b | .ixStr a b | .app _ _ _ a b | .max a b | .min a b => [a, b]
  | .slStr a l h => a :: (saM l ++ saM h)
  | .slSl _ a l h m => a :: (saM l ++ saM h ++ saM m)
  | .call _ f args => f :: args

def rdO (G : Gl) (o : SOp) (T : Tm) : List Id := (saO o).flatMap fun s => idsA (evS G T s)

def SOp.adds : SOp → Bool
  | .alloc _ | .box _ | .app .. | .mkSl .. => true
  | _ => false

/-- Which blocks an operation may write. -/
def wrO (G : Gl) (slot : Id) (o : SOp) (T : Tm) : List Id :=
  match o with
  | .store _ a _ => idsA (evS G T a)
  | .slSl _ a _ _ _ => idsA (evS G T a)
  | .app _ _ _ a _ => slot :: idsA (evS G T a)
  | .alloc _ | .box _ | .mkSl .. => [slot]
  | _ => []

/-- Which operations go in a region whose order is open. -/
def okM (G : Gl) (o : SOp) (T : Tm) : Bool :=
  match o with
  | .lit _ ps => (ps.map (evS G T)).all pureV1
  | .call .. => false
  | _ => true

section
variable {P : Program} {G : Gl} {N : Nat} {φ φ' : Pl} {H H' : Hp} {F F' : Cl} {w w' : World} {T T' : Tm}

theorem elemsA_eff {c : C} {H2 : Hp} (ha : ∀ i ∈ idsC c, H2.get i = H.get i) : elemsA H2 c = elemsA H c := by
  cases c with
  | os id n => simp only [elemsA]; rw [ha id (by simp [idsC])]
  | p v => cases v <;> rfl
  | _ => rfl

theorem freezeA_pure1 {a : AV} (h : pureV1 a = true) (H : Hp) : freezeA H a = some (true, a, H) := by
  cases a with
  | c c => cases c <;> simp [pureV1] at h; rfl
  | agg cs => rfl
  | _ => simp [pureV1] at h

theorem litS_pure {n : Nat} : ∀ {vs : List AV} {H : Hp} {b : Bool} {l : List (List PV)} {H' : Hp}, vs.all pureV1 = true → litS n H vs = some (b, l, H') → H' = H ∧ ∀ H2, litS n H2 vs = some (b, l, H2)
  | [], H, b, l, H', _, h => by
    simp only [litS, Option.some.injEq, Prod.mk.injEq] at h
    obtain ⟨rfl, rfl, rfl⟩ := h
    exact ⟨rfl, fun _ => rfl⟩
  | v :: vs, H, b, l, H', hp, h => by
    simp only [List.all_cons, Bool.and_eq_true] at hp
    simp only [litS, freezeA_pure1 hp.1] at h
    split at h
    · rename_i cs b' l' H1 h1 h2
      simp only [Option.some.injEq, Prod.mk.injEq] at h
      obtain ⟨rfl, rfl, rfl⟩ := h
      obtain ⟨rfl, h3⟩ := litS_pure hp.2 h2
      exact ⟨rfl, fun H2 => by simp only [litS, freezeA_pure1 hp.1, h1, h3 H2]⟩
    · cases h

theorem resOf_eff {r : Option (Bool × AV)} {p : Bool} {v : AV} (h : resOf H r = some ⟨p, v, H'⟩) : H' = H ∧ ∀ H2, resOf H2 r = some ⟨p, v, H2⟩ := by
  unfold resOf at h
  split at h
  · simp only [Option.some.injEq, Res.mk.injEq] at h
    obtain ⟨rfl, rfl, rfl⟩ := h
    exact ⟨rfl, fun _ => rfl⟩
  · cases h

theorem loadS_eff {agg : Bool} {n : Nat} {a : AV} {p : Bool} {v : AV} (h : loadS agg n a H = some ⟨p, v, H'⟩) : H' = H ∧ ∀ H2, (∀ i ∈ idsA a, H2.get i = H.get i) → loadS agg n a H2 = some ⟨p, v, H2⟩ := by
  cases a with
  | c c =>
    cases c with
    | rp cs => obtain ⟨h1, h2⟩ := resOf_eff h; exact ⟨h1, fun H2 _ => h2 H2⟩
    | ptr id o =>
      simp only [loadS] at h ⊢
      split at h
      · rename_i cs hg; obtain ⟨h1, h2⟩ := resOf_eff h; exact ⟨h1, fun H2 ha => by rw [ha id (by simp [idsA, idsC]), hg]; exact h2 H2⟩
      · rename_i cs hg; obtain ⟨h1, h2⟩ := resOf_eff h; exact ⟨h1, fun H2 ha => by rw [ha id (by simp [idsA, idsC]), hg]; exact h2 H2⟩
      · cases h
    | ap id m i o =>
      simp only [loadS] at h ⊢
      split at h
      · rename_i sz fz es hg
        split at h
        · rename_i cs hc
          split at h
          · rename_i b v' hp
            simp only [Option.some.injEq, Res.mk.injEq] at h
            obtain ⟨rfl, rfl, rfl⟩ := h
            exact ⟨rfl, fun H2 ha => by rw [ha id (by simp [idsA, idsC]), hg]; simp only [hc, hp]⟩
          · cases h
        · cases h
      · cases h
    | _ => simp [loadS] at h
  | _ => simp [loadS] at h

def stR (n o : Nat) (v : AV) (b : Option Blk) : Option (Bool × Blk) :=
  match b, v with
  | some (.row cs), .c (.p u) => some (decide (n = 1 ∧ o + 1 ≤ cs.length), .row (putAt cs o [u]))
  | some (.row cs), .agg us => some (decide (n = us.length ∧ o + us.length ≤ cs.length), .row (putAt cs o us))
  | some (.row cs), .c u => some (decide (n = 1 ∧ o + 1 ≤ cs.length), .mrow (putAt (cs.map .p) o [u]))
  | some (.row cs), .mg us => some (decide (n = us.length ∧ o + us.length ≤ cs.length), .mrow (putAt (cs.map .p) o us))
  | some (.mrow cs), .c u => some (decide (n = 1 ∧ o + 1 ≤ cs.length), .mrow (putAt cs o [u]))
  | some (.mrow cs), .agg us => some (decide (n = us.length ∧ o + us.length ≤ cs.length), .mrow (putAt cs o (us.map .p)))
  | some (.mrow cs), .mg us => some (decide (n = us.length ∧ o + us.length ≤ cs.length), .mrow (putAt cs o us))
  | _, _ => none
def stA (n m i o : Nat) (v : AV) (b : Option Blk) : Option (Bool × Blk) :=
  match b, v with
  | some (.arr sz false es), .c (.p u) => match es[i]? with
    | some cs => some (decide (n = 1 ∧ o + 1 ≤ cs.length ∧ m = es.length), .arr sz false (es.set i (putAt cs o [u])))
    | none => none
  | some (.arr sz false es), .agg us => match es[i]? with
    | some cs => some (decide (n = us.length ∧ o + us.length ≤ cs.length ∧ m = es.length), .arr sz false (es.set i (putAt cs o us)))
    | none => none
  | _, _ => none
def stRes (H : Hp) (id : Id) : Option (Bool × Blk) → Option Res
  | some (p, b) => some ⟨p, .tup [], H.set id b⟩
  | none => none

theorem storeS_ptr (n : Nat) (id : Id) (o : Nat) (v : AV) (H : Hp) : storeS n (.c (.ptr id o)) v H = stRes H id (stR n o v (H.get id)) := by
  simp only [storeS, stR]
  cases H.get id with
  | none => cases v <;> first | rfl | (rename_i c; cases c <;> rfl)
  | some b => cases b <;> cases v <;> first | rfl | (rename_i c; cases c <;> rfl)

theorem storeS_ap (n : Nat) (id : Id) (m i o : Nat) (v : AV) (H : Hp) : storeS n (.c (.ap id m i o)) v H = stRes H id (stA n m i o v (H.get id)) := by
  simp only [storeS, stA]
  cases H.get id with
  | none => cases v <;> first | rfl | (rename_i c; cases c <;> rfl)
  | some b =>
    cases b with
    | arr sz fz es =>
      cases fz with
      | true => cases v <;> first | rfl | (rename_i c; cases c <;> rfl)
      | false =>
        cases v with
        | c c => cases c <;> first | rfl | (dsimp only; cases es[i]? <;> rfl)
        | agg us => dsimp only; cases es[i]? <;> rfl
        | _ => rfl
    | _ => cases v <;> first | rfl | (rename_i c; cases c <;> rfl)

theorem stRes_eff {id : Id} {r : Option (Bool × Blk)} {p : Bool} {v : AV} (h : stRes H id r = some ⟨p, v, H'⟩) : ∃ b, r = some (p, b) ∧ v = .tup [] ∧ H' = H.set id b := by
  unfold stRes at h
  split at h
  · simp only [Option.some.injEq, Res.mk.injEq] at h
    obtain ⟨rfl, rfl, rfl⟩ := h
    exact ⟨_, rfl, rfl, rfl⟩
  · cases h

theorem storeS_eff {n : Nat} {a u : AV} {p : Bool} {v : AV} (h : storeS n a u H = some ⟨p, v, H'⟩) : ∃ id b, id ∈ idsA a ∧ (H.get id).isSome ∧ H' = H.set id b ∧ ∀ H2, (∀ i ∈ idsA a, H2.get i = H.get i) → storeS n a u H2 = some ⟨p, v, H2.set id b⟩ := by
  cases a with
  | c c =>
    cases c with
    | ptr id o =>
      rw [storeS_ptr] at h
      obtain ⟨b, h1, rfl, rfl⟩ := stRes_eff h
      refine ⟨id, b, by simp [idsA, idsC], ?_, rfl, fun H2 ha => by rw [storeS_ptr, ha id (by simp [idsA, idsC]), h1]; rfl⟩
      cases hg : H.get id with
      | none => rw [hg] at h1; simp [stR] at h1
      | some b => rfl
    | ap id m i o =>
      rw [storeS_ap] at h
      obtain ⟨b, h1, rfl, rfl⟩ := stRes_eff h
      refine ⟨id, b, by simp [idsA, idsC], ?_, rfl, fun H2 ha => by rw [storeS_ap, ha id (by simp [idsA, idsC]), h1]; rfl⟩
      cases hg : H.get id with
      | none => rw [hg] at h1; simp [stA] at h1
      | some b => rfl
    | _ => simp [storeS] at h
  | _ => simp [storeS] at h

theorem ixSl_eff {m : Nat} {a i : AV} {p : Bool} {v : AV} (h : ixSl m a i H = some ⟨p, v, H'⟩) : H' = H ∧ ∀ H2, (∀ i ∈ idsA a, H2.get i = H.get i) → ixSl m a i H2 = some ⟨p, v, H2⟩ := by
  unfold ixSl at h ⊢
  split at h
  · rename_i id n k x
    split at h
    · rename_i sz fz es hg
      simp only [Option.some.injEq, Res.mk.injEq] at h
      obtain ⟨rfl, rfl, rfl⟩ := h
      exact ⟨rfl, fun H2 ha => by simp only [ha id (by simp [idsA, idsC]), hg]⟩
    · cases h
  all_goals first
    | (cases h; done)
    | (split at h
       · rename_i hg
         simp only [Option.some.injEq, Res.mk.injEq] at h
         obtain ⟨rfl, rfl, rfl⟩ := h
         exact ⟨rfl, fun H2 _ => by simp only [hg]⟩
       · cases h)

theorem srcA_eff {str : Bool} {a : AV} {H2 : Hp} (ha : ∀ i ∈ idsA a, H2.get i = H.get i) : srcA str H2 a = srcA str H a := by
  cases a with
  | c c =>
    cases str with
    | false => exact elemsA_eff ha
    | true => cases c <;> first | rfl | (rename_i v; cases v <;> rfl)
  | _ => cases str <;> rfl

theorem appS_eff {sz bytes : Nat} {str : Bool} {a b : AV} {p : Bool} {v : AV} (h : appS sz bytes str a b H = some ⟨p, v, H'⟩) : ∃ e : Eff, H' = e.app H ∧
    (∀ H2, SameLen H H2 → (∀ i, i ∈ idsA a ∨ i ∈ idsA b → H2.get i = H.get i) → appS sz bytes str a b H2 = some ⟨p, v, e.app H2⟩) ∧
    (∀ id b, e = .set id b → id ∈ idsA a ∧ (H.get id).isSome) := by
  unfold appS at h
  have hn : ∀ {H2 : Hp}, SameLen H H2 → H2.nid = H.nid := fun hs => by simp [Hp.nid, hs.loc]
  split at h
  · rename_i pb new hs
    simp only [Option.some.injEq, Res.mk.injEq] at h
    obtain ⟨rfl, rfl, rfl⟩ := h
    refine ⟨.add (.arr sz false new), rfl, fun H2 hl ha => ?_, fun id b e => by cases e⟩
    unfold appS
    rw [srcA_eff fun i hi => ha i (.inr hi), hs]
    simp only [hn hl]; rfl
  · rename_i pb new hs
    simp only [Option.some.injEq, Res.mk.injEq] at h
    obtain ⟨rfl, rfl, rfl⟩ := h
    refine ⟨.add (.arr sz false new), rfl, fun H2 hl ha => ?_, fun id b e => by cases e⟩
    unfold appS
    rw [srcA_eff fun i hi => ha i (.inr hi), hs]
    simp only [hn hl]; rfl
  · rename_i pb new es hne hs
    simp only [Option.some.injEq, Res.mk.injEq] at h
    obtain ⟨rfl, rfl, rfl⟩ := h
    refine ⟨.add (.arr sz false (es ++ new)), rfl, fun H2 hl ha => ?_, fun id b e => by cases e⟩
    unfold appS
    rw [srcA_eff fun i hi => ha i (.inr hi), hs]
    cases es with
    | nil => exact absurd rfl hne
    | cons e es => simp only [hn hl]; rfl
  · rename_i pb new id n hs
    split at h
    · rename_i sz' fz es hg
      simp only [Option.some.injEq, Res.mk.injEq] at h
      obtain ⟨rfl, rfl, rfl⟩ := h
      refine ⟨.set id (.arr sz fz (es ++ new)), rfl, fun H2 hl ha => ?_, fun id' b e => by cases e; exact ⟨by simp [idsA, idsC], by rw [hg]; rfl⟩⟩
      unfold appS
      rw [srcA_eff fun i hi => ha i (.inr hi), hs]
      simp only [ha id (.inl (by simp [idsA, idsC])), hg]; rfl
    · cases h
  · cases h

theorem slSl_eff {sz : Nat} {a : AV} {lo hi mx : Option AV} {p : Bool} {v : AV} (h : slSl sz a lo hi mx H = some ⟨p, v, H'⟩) : ∃ e : Eff, H' = e.app H ∧
    (∀ H2, (∀ i, i ∈ idsA a → H2.get i = H.get i) → slSl sz a lo hi mx H2 = some ⟨p, v, e.app H2⟩) ∧
    (∀ id b, e = .set id b → id ∈ idsA a ∧ (H.get id).isSome) ∧ ∀ b, e ≠ .add b := by
  cases a with
  | c c =>
    have key : ∃ e : Eff, (∀ H1, frz H c = some H1 → H1 = e.app H) ∧ (∀ H2, (∀ i, i ∈ idsC c → H2.get i = H.get i) → (frz H c).isSome → frz H2 c = some (e.app H2)) ∧ (∀ id b, e = .set id b → (frz H c).isSome → id ∈ idsC c ∧ (H.get id).isSome) ∧ ∀ b, e ≠ .add b := by
      cases c with
      | os id n =>
        simp only [frz]
        cases hg : H.get id with
        | none => exact ⟨.keep, fun H1 e => by simp at e, fun H2 ha e => by simp at e, fun _ _ e _ => (by cases e), fun b e => (by cases e)⟩
        | some b =>
          cases b with
          | arr sz fz es =>
            refine ⟨.set id (.arr sz true es), fun H1 e => by simp at e; exact e.symm, fun H2 ha _ => by rw [ha id (by simp [idsC]), hg]; rfl, fun id' b e _ => by cases e; exact ⟨by simp [idsC], by rw [hg]; rfl⟩, fun b e => by cases e⟩
          | _ => exact ⟨.keep, fun H1 e => by simp at e, fun H2 ha e => by simp at e, fun _ _ e _ => (by cases e), fun b e => (by cases e)⟩
      | _ => exact ⟨.keep, fun H1 e => by simp [frz] at e; exact e.symm, fun H2 _ _ => rfl, fun _ _ e _ => (by cases e), fun b e => (by cases e)⟩
    obtain ⟨e, k1, k2, k3, k4⟩ := key
    simp only [slSl] at h ⊢
    split at h
    · rename_i b es H1 he hf
      have hf' : (frz H c).isSome := by rw [hf]; rfl
      split at h
      all_goals first
        | (cases h; done)
        | (simp only [Option.some.injEq, Res.mk.injEq] at h
           obtain ⟨rfl, rfl, rfl⟩ := h
           exact ⟨e, k1 _ hf, fun H2 ha => by rw [elemsA_eff (c := c) ha, he, k2 H2 ha hf']; simp only [*], fun id b e' => k3 id b e' hf', k4⟩)
    · cases h
  | _ => simp [slSl] at h

theorem lenS_eff {str : Bool} {a : AV} {p : Bool} {v : AV} (h : lenS str a H = some ⟨p, v, H'⟩) : H' = H ∧ ∀ H2, (∀ i ∈ idsA a, H2.get i = H.get i) → lenS str a H2 = some ⟨p, v, H2⟩ := by
  cases a with
  | c c =>
    cases str with
    | false =>
      simp only [lenS] at h ⊢
      split at h
      · rename_i b es he
        simp only [Option.some.injEq, Res.mk.injEq] at h
        obtain ⟨rfl, rfl, rfl⟩ := h
        exact ⟨rfl, fun H2 ha => by rw [elemsA_eff (c := c) ha, he]⟩
      · cases h
    | true =>
      cases c with
      | p v =>
        cases v with
        | str s =>
          simp only [lenS, Option.some.injEq, Res.mk.injEq] at h
          obtain ⟨rfl, rfl, rfl⟩ := h
          exact ⟨rfl, fun _ _ => rfl⟩
        | _ => simp [lenS] at h
      | _ => simp [lenS] at h
  | _ => cases str <;> simp [lenS] at h

theorem mkSl_eff {sz bytes : Nat} {zs : List PV} {l c : AV} {p : Bool} {v : AV} (h : mkSl sz bytes zs l c H = some ⟨p, v, H'⟩) : ∃ b, H' = H.add b ∧ ∀ H2, SameLen H H2 → mkSl sz bytes zs l c H2 = some ⟨p, v, H2.add b⟩ := by
  unfold mkSl at h
  split at h
  · simp only [Option.some.injEq, Res.mk.injEq] at h
    obtain ⟨rfl, rfl, rfl⟩ := h
    exact ⟨_, rfl, fun H2 hl => by unfold mkSl; simp only [Hp.nid, hl.loc]⟩
  · cases h

theorem ret_eff {x : AV} {p : Bool} {v : AV} (h : ret x H = some ⟨p, v, H'⟩) : H' = H ∧ ∀ H2, ret x H2 = some ⟨p, v, H2⟩ := by
  simp only [ret, Option.some.injEq, Res.mk.injEq] at h
  obtain ⟨rfl, rfl, rfl⟩ := h
  exact ⟨rfl, fun _ => rfl⟩

/-- An operation's effect, and that it hangs on what it names alone. -/
theorem opS_eff {o : SOp} (hok : okM G o T = true) {p : Bool} {v : AV} (h : opS G o T H = some ⟨p, v, H'⟩) : ∃ e : Eff, H' = e.app H ∧
    (∀ H2, SameLen H H2 → (∀ i ∈ rdO G o T, H2.get i = H.get i) → opS G o T H2 = some ⟨p, v, e.app H2⟩) ∧
    (∀ id b, e = .set id b → (∀ slot, id ∈ wrO G slot o T) ∧ (H.get id).isSome) ∧ (∀ b, e = .add b → o.adds = true) := by
  have keep : (H' = H ∧ ∀ H2, SameLen H H2 → (∀ i ∈ rdO G o T, H2.get i = H.get i) → opS G o T H2 = some ⟨p, v, H2⟩) → ∃ e : Eff, H' = e.app H ∧
    (∀ H2, SameLen H H2 → (∀ i ∈ rdO G o T, H2.get i = H.get i) → opS G o T H2 = some ⟨p, v, e.app H2⟩) ∧
    (∀ id b, e = .set id b → (∀ slot, id ∈ wrO G slot o T) ∧ (H.get id).isSome) ∧ (∀ b, e = .add b → o.adds = true) :=
    fun ⟨h1, h2⟩ => ⟨.keep, h1, h2, fun _ _ e => (by cases e), fun _ e => (by cases e)⟩
  have in1 : ∀ {s : SA}, s ∈ saO o → ∀ i ∈ idsA (evS G T s), i ∈ rdO G o T := fun hs i hi => List.mem_flatMap.2 ⟨_, hs, hi⟩
  cases o with
  | move a => exact keep ⟨(ret_eff h).1, fun H2 _ _ => (ret_eff h).2 H2⟩
  | pick c a b =>
    simp only [opS] at h
    split at h
    · rename_i t hc
      exact keep ⟨(ret_eff h).1, fun H2 _ _ => by simp only [opS, hc]; exact (ret_eff h).2 H2⟩
    · cases h
  | alloc b =>
    simp only [opS, ret, Option.some.injEq, Res.mk.injEq] at h
    obtain ⟨rfl, rfl, rfl⟩ := h
    exact ⟨.add b, rfl, fun H2 hl _ => by simp only [opS, ret, Hp.nid, hl.loc]; rfl, fun _ _ e => (by cases e), fun _ _ => rfl⟩
  | box a =>
    simp only [opS] at h
    split at h
    · rename_i b hb
      simp only [ret, Option.some.injEq, Res.mk.injEq] at h
      obtain ⟨rfl, rfl, rfl⟩ := h
      exact ⟨.add b, rfl, fun H2 hl _ => by simp only [opS, hb, ret, Hp.nid, hl.loc]; rfl, fun _ _ e => (by cases e), fun _ _ => rfl⟩
    · cases h
  | lit n ps =>
    simp only [opS] at h
    split at h
    · rename_i b es H1 hl
      simp only [Option.some.injEq, Res.mk.injEq] at h
      obtain ⟨rfl, rfl, rfl⟩ := h
      obtain ⟨h1, h2⟩ := litS_pure hok hl
      exact keep ⟨h1, fun H2 _ _ => by simp only [opS, h2 H2]⟩
    · cases h
  | load agg n a => exact keep ⟨(loadS_eff h).1, fun H2 _ ha => (loadS_eff h).2 H2 fun i hi => ha i (in1 (by simp [saO]) i hi)⟩
  | store n a u =>
    obtain ⟨id, b, h1, h2, h3, h4⟩ := storeS_eff (show storeS n (evS G T a) (evS G T u) H = _ from h)
    exact ⟨.set id b, h3, fun H2 _ ha => h4 H2 fun i hi => ha i (in1 (by simp [saO]) i hi), fun id' b' e => by cases e; exact ⟨fun _ => h1, h2⟩, fun _ e => by cases e⟩
  | ixSl n a i => exact keep ⟨(ixSl_eff h).1, fun H2 _ ha => (ixSl_eff h).2 H2 fun i hi => ha i (in1 (by simp [saO]) i hi)⟩
  | len str a => exact keep ⟨(lenS_eff h).1, fun H2 _ ha => (lenS_eff h).2 H2 fun i hi => ha i (in1 (by simp [saO]) i hi)⟩
  | app sz bytes str a b =>
    obtain ⟨e, h1, h2, h3⟩ := appS_eff (show appS sz bytes str (evS G T a) (evS G T b) H = _ from h)
    exact ⟨e, h1, fun H2 hl ha => h2 H2 hl fun i hi => ha i (hi.elim (in1 (by simp [saO]) i) (in1 (by simp [saO]) i)), fun id b e => ⟨fun slot => List.mem_cons_of_mem _ (h3 id b e).1, (h3 id b e).2⟩, fun _ _ => rfl⟩
  | mkSl sz bytes zs l c =>
    obtain ⟨b, h1, h2⟩ := mkSl_eff (show mkSl sz bytes zs (evS G T l) (evS G T c) H = _ from h)
    exact ⟨.add b, h1, fun H2 hl _ => h2 H2 hl, fun _ _ e => (by cases e), fun _ _ => rfl⟩
  | slSl sz a lo hi mx =>
    obtain ⟨e, h1, h2, h3, h4⟩ := slSl_eff (show slSl sz (evS G T a) _ _ _ H = _ from h)
    exact ⟨e, h1, fun H2 _ ha => h2 H2 fun i hi => ha i (in1 (by simp [saO]) i hi), fun id b e => ⟨fun slot => (h3 id b e).1, (h3 id b e).2⟩, fun b e => absurd e (h4 b)⟩
  | cString a =>
    simp only [opS] at h
    split at h
    · rename_i c hc
      simp only [bytesS] at h
      cases he : elemsA H c with
      | none => rw [he] at h; simp at h
      | some q =>
        obtain ⟨b, es⟩ := q
        rw [he] at h
        dsimp only at h
        cases hu : unbytes es with
        | none => rw [hu] at h; simp at h
        | some l =>
          rw [hu] at h
          simp only [Option.some.injEq, Res.mk.injEq] at h
          obtain ⟨rfl, rfl, rfl⟩ := h
          refine keep ⟨rfl, fun H2 _ ha => ?_⟩
          simp only [opS, hc, bytesS]
          rw [elemsA_eff (H := H) (fun i hi => ha i (in1 (s := a) (by simp [saO]) i (by rw [hc]; exact hi))), he]
          simp only [hu]
    · cases h
  | call p f args => simp [okM] at hok
  | bin op a b => exact keep ⟨(resOf_eff h).1, fun H2 _ _ => (resOf_eff h).2 H2⟩
  | sh op a b => exact keep ⟨(resOf_eff h).1, fun H2 _ _ => (resOf_eff h).2 H2⟩
  | fldv off agg n a =>
    refine keep ?_
    simp only [opS, fieldS] at h ⊢
    split at h
    · exact ⟨(resOf_eff h).1, fun H2 _ _ => (resOf_eff h).2 H2⟩
    · exact ⟨(resOf_eff h).1, fun H2 _ _ => (resOf_eff h).2 H2⟩
    · cases h
  | _ =>
    refine keep ?_
    simp only [opS, fieldAddrS, ixArr, ixAgg, ixStr, slStr] at h ⊢
    repeat' split at h
    all_goals first
      | (cases h; done)
      | (simp only [ret, Option.some.injEq, Res.mk.injEq] at h
         obtain ⟨rfl, rfl, rfl⟩ := h
         exact ⟨rfl, fun H2 _ _ => by simp_all [ret]⟩)
end
end Go.Ab
