/- A contract that is proved for its own few blocks holds beside any others; new blocks that nothing names are forgotten. No condition. -/
import Derived.Test.YteipepbijfdciaaAb8b
set_option linter.unusedSimpArgs false
set_option linter.unusedVariables false
namespace Go.Ab
open Go

/-- The caller's names of a contract's blocks. -/
def rho (is : List Id) (n : Nat) : Id → Id
  | .par k => match is[k]? with | some i => i | none => .par k
  | .loc j => .loc (n + j)
def Hp.puts (H : Hp) : List Id → List Blk → Hp
  | i :: is, b :: bs => (H.set i b).puts is bs
  | _, _ => H
def inI (n : Nat) : Id → Bool
  | .par k => Nat.blt k n
  | .loc _ => false
def inB (n : Nat) : Blk → Bool
  | .mrow cs => cs.all fun c => (idsC c).all (inI n)
  | _ => true
def inA (n : Nat) (a : AV) : Bool := (idsT a).all (inI n)
def phiC (is : List Id) (φ : Pl) : Pl
  | .par k => match is[k]? with | some i => φ i | none => none
  | .loc _ => none
def Hp.more (H : Hp) (l : List Blk) : Hp := ⟨H.par, H.loc ++ l⟩
/-- The caller's heap after it. -/
def backH (is : List Id) (H Hc : Hp) : Hp := (H.puts is (Hc.par.map (Blk.ren (rho is H.loc.length)))).more (Hc.loc.map (Blk.ren (rho is H.loc.length)))

section
variable {P : Program} {G : Gl} {φ φ' φc : Pl} {H H' Hc : Hp} {F F' : Cl} {w w' : World} {is : List Id}

theorem puts_len (is : List Id) : ∀ (bs : List Blk) (H : Hp), SameLen H (H.puts is bs) := by
  induction is with
  | nil => intro bs H; exact .refl _
  | cons i is ih =>
    intro bs H
    cases bs with
    | nil => exact .refl _
    | cons b bs => exact (set_len H i b).trans (ih bs _)
theorem puts_other : ∀ {is : List Id} {bs : List Blk} {H : Hp} {i : Id}, i ∉ is → (H.puts is bs).get i = H.get i := by
  intro is
  induction is with
  | nil => intro bs H i _; rfl
  | cons j is ih =>
    intro bs H i h
    cases bs with
    | nil => rfl
    | cons b bs =>
      simp only [List.mem_cons, not_or] at h
      simp only [Hp.puts]
      rw [ih h.2, Hp.get_set_other h.1]
theorem puts_at : ∀ {is : List Id} {bs : List Blk} {H : Hp} (_ : is.Nodup) (_ : ∀ i ∈ is, (H.get i).isSome) {k : Nat} {i : Id} {b : Blk}, is[k]? = some i → bs[k]? = some b → (H.puts is bs).get i = some b := by
  intro is
  induction is with
  | nil => intro bs H _ _ k i b h; simp at h
  | cons j is ih =>
    intro bs H hn hs k i b h1 h2
    rw [List.nodup_cons] at hn
    cases bs with
    | nil => simp at h2
    | cons c bs =>
      simp only [Hp.puts]
      cases k with
      | zero =>
        simp only [List.getElem?_cons_zero, Option.some.injEq] at h1 h2
        subst h1 h2
        obtain ⟨q, hq⟩ := Option.isSome_iff_exists.1 (hs j (by simp))
        rw [puts_other hn.1, Hp.get_set_self hq]
      | succ k =>
        refine ih hn.2 (fun x hx => ?_) (by simpa using h1) (by simpa using h2)
        have hne : x ≠ j := fun e => hn.1 (e ▸ hx)
        rw [Hp.get_set_other hne]
        exact hs x (by simp [hx])

/-- How the caller's blocks are the contract's. -/
structure Fits (H : Hp) (is : List Id) (bs : List Blk) : Prop where
  nodup : is.Nodup
  len : is.length = bs.length
  get : ∀ (k : Nat) (i : Id) (b : Blk), is[k]? = some i → bs[k]? = some b → H.get i = some (b.ren (rho is H.loc.length))
  ins : bs.all (inB bs.length) = true

theorem Fits.isS {bs : List Blk} (h : Fits H is bs) {i : Id} (hi : i ∈ is) : (H.get i).isSome := by
  obtain ⟨k, hk⟩ := List.getElem?_of_mem hi
  have : k < bs.length := by rw [← h.len]; exact (List.getElem?_eq_some_iff.1 hk).1
  rw [h.get k i bs[k] hk (List.getElem?_eq_getElem this)]
  rfl
theorem Fits.par {bs : List Blk} (h : Fits H is bs) {k : Nat} (hk : inI bs.length (.par k) = true) : ∃ i b, is[k]? = some i ∧ bs[k]? = some b ∧ rho is H.loc.length (.par k) = i ∧ H.get i = some (b.ren (rho is H.loc.length)) ∧ phiC is φ (.par k) = φ i := by
  simp only [inI, Nat.blt_eq] at hk
  have hk' : k < is.length := by rw [h.len]; exact hk
  have e1 : is[k]? = some is[k] := List.getElem?_eq_getElem hk'
  have e2 : bs[k]? = some bs[k] := List.getElem?_eq_getElem hk
  exact ⟨_, _, e1, e2, by simp only [rho, e1], h.get k _ _ e1 e2, by simp only [phiC, e1]⟩

theorem CR.back {bs : List Blk} (hf : Fits H is bs) {c : C} {x : Value} (hin : (idsC c).all (inI bs.length) = true) (h : CR φ H F w (c.ren (rho is H.loc.length)) x) : CR (phiC is φ) ⟨bs, []⟩ F w c x := by
  have key : ∀ i ∈ idsC c, ∃ b, (⟨bs, []⟩ : Hp).get i = some b ∧ H.get (rho is H.loc.length i) = some (b.ren (rho is H.loc.length)) ∧ phiC is φ i = φ (rho is H.loc.length i) := by
    intro i hi
    have hi := List.all_eq_true.1 hin i hi
    cases i with
    | loc j => simp [inI] at hi
    | par k =>
      obtain ⟨i, b, h1, h2, h3, h4, h5⟩ := hf.par (φ := φ) hi
      exact ⟨b, h2, by rw [h3]; exact h4, by rw [h3]; exact h5⟩
  cases c with
  | ptr id o =>
    obtain ⟨b, k1, k2, k3⟩ := key id (by simp [idsC])
    obtain ⟨b', r, h1, h2, h3, h4⟩ := h
    rw [k2] at h1; cases h1
    exact ⟨b, r, k1, by rwa [ren_isRow] at h2, k3.trans h3, h4⟩
  | ap id n i o =>
    obtain ⟨b, k1, k2, k3⟩ := key id (by simp [idsC])
    obtain ⟨sz, fz, es, b', k, h1, h2, h3, h4⟩ := h
    rw [k2] at h1
    cases b <;> simp only [Blk.ren, Option.some.injEq, reduceCtorEq] at h1
    rw [h1] at k1
    exact ⟨sz, fz, es, b', k, k1, h2, h3, fun e => ⟨k3.trans (h4 e).1, (h4 e).2⟩⟩
  | os id n =>
    obtain ⟨b, k1, k2, k3⟩ := key id (by simp [idsC])
    obtain ⟨sz, fz, es, h1, h2, h3⟩ := h
    rw [k2] at h1
    cases b <;> simp only [Blk.ren, Option.some.injEq, reduceCtorEq] at h1
    rw [h1] at k1
    refine ⟨sz, fz, es, k1, h2, fun e => ?_⟩
    rcases h3 e with h | ⟨r, cap, e', k, q1, q2⟩
    · exact .inl h
    · exact .inr ⟨r, cap, e', k, k3.trans q1, q2⟩
  | fn g caps =>
    obtain ⟨cv, h1, h2⟩ := h
    refine ⟨cv, h1, ?_⟩
    have h3 := F2.mapl.1 h2
    simp only [idsC] at key
    clear h1 hin h2
    induction h3 with
    | nil => exact .nil
    | cons q _ ih =>
      obtain ⟨b, k1, k2, k3⟩ := key _ List.mem_cons_self
      obtain ⟨b', r, q1, q2, q3, q4⟩ := q
      rw [k2] at q1; cases q1
      exact .cons ⟨b, r, k1, by rwa [ren_isRow] at q2, k3.trans q3, q4⟩ (ih fun i h => key i (by simp [h]))
  | _ => exact h
theorem F2.all {α β : Type} {R S : α → β → Prop} {p : α → Bool} {as : List α} {bs : List β} (h : F2 R as bs) (ha : as.all p = true) (i : ∀ a b, p a = true → R a b → S a b) : F2 S as bs := by
  induction h with
  | nil => exact .nil
  | cons h _ ih =>
    rw [List.all_cons, Bool.and_eq_true] at ha
    exact .cons (i _ _ ha.1 h) (ih ha.2)
theorem all_flat {α β : Type} {p : β → Bool} {f : α → List β} {l : List α} (h : (l.flatMap f).all p = true) : l.all (fun a => (f a).all p) = true := by
  induction l with
  | nil => rfl
  | cons a l ih =>
    rw [List.flatMap_cons, List.all_append, Bool.and_eq_true] at h
    rw [List.all_cons, Bool.and_eq_true]
    exact ⟨h.1, ih h.2⟩
theorem AR1.back {bs : List Blk} (hf : Fits H is bs) {a : AV} {x : Value} (hin : (idsA a).all (inI bs.length) = true) (h : AR1 φ H F w (a.ren1 (rho is H.loc.length)) x) : AR1 (phiC is φ) ⟨bs, []⟩ F w a x := by
  cases a with
  | un => exact .un x
  | c c => cases h with | c h hx => exact .c (h.back hf hin) hx
  | agg cs => cases h with | agg h => exact .agg h
  | mg cs => cases h with | mg h => exact .mg ((F2.mapl.1 h).all (all_flat hin) fun _ _ hp q => ⟨q.1.back hf hp, q.2⟩)
  | tup vs => cases h
theorem AR.back {bs : List Blk} (hf : Fits H is bs) {a : AV} {x : Value} (hin : inA bs.length a = true) (h : AR φ H F w (a.ren (rho is H.loc.length)) x) : AR (phiC is φ) ⟨bs, []⟩ F w a x := by
  cases a with
  | tup vs =>
    obtain ⟨xs, rfl, hx⟩ := h.tupr
    exact .tup ((F2.mapl.1 hx).all (all_flat hin) fun _ _ hp q => q.back hf hp)
  | _ =>
    refine .one (AR1.back hf hin ?_)
    cases h with
    | one h => exact h
theorem BR.back {bs : List Blk} (hf : Fits H is bs) {k : Nat} {b : Blk} (hk : bs[k]? = some b) (h : BR φ H F w (rho is H.loc.length (.par k)) (b.ren (rho is H.loc.length))) : BR (phiC is φ) ⟨bs, []⟩ F w (.par k) b := by
  have hlt := (List.getElem?_eq_some_iff.1 hk).1
  obtain ⟨i, b', h1, h2, h3, h4, h5⟩ := hf.par (φ := φ) (k := k) (by simpa [inI] using hlt)
  have hin : inB bs.length b = true := List.all_eq_true.1 hf.ins b (List.mem_of_getElem? hk)
  rw [h3] at h
  cases b with
  | row cs => simpa only [BR, Blk.ren, h5] using h
  | mrow cs =>
    obtain ⟨r, c, q1, q2, q3, q4⟩ := h
    exact ⟨r, c, h5.trans q1, q2, q3, (F2.mapl.1 q4).all hin fun _ _ hp q => ⟨q.1.back hf hp, q.2⟩⟩
  | arr sz fz es => simpa only [BR, Blk.ren, h5] using h
  | hole => exact h5.trans h

theorem SRel.back {bs : List Blk} (hf : Fits H is bs) (S : SRel G φ H F w) : SRel G (phiC is φ) ⟨bs, []⟩ F w := by
  have some : ∀ {i r}, phiC is φ i = some r → ∃ k j, i = .par k ∧ is[k]? = .some j ∧ φ j = .some r := by
    intro i r h
    cases i with
    | loc j => cases h
    | par k =>
      simp only [phiC] at h
      split at h
      · rename_i j hj; exact ⟨k, j, rfl, hj, h⟩
      · cases h
  refine ⟨fun i j r hi hj => ?_, fun i r h => ?_, fun i r h => ?_, fun id b h => ?_, S.glob, S.fin⟩
  · obtain ⟨k, i', rfl, h1, h2⟩ := some hi
    obtain ⟨m, j', rfl, h3, h4⟩ := some hj
    have := S.inj _ _ _ h2 h4
    subst this
    have hlt := (List.getElem?_eq_some_iff.1 h1).1
    rw [(List.getElem?_inj hlt hf.nodup).1 (h1.trans h3.symm)]
  · obtain ⟨k, i', rfl, h1, h2⟩ := some h
    exact S.dom _ _ h2
  · obtain ⟨k, i', rfl, h1, h2⟩ := some h
    have hlt := (List.getElem?_eq_some_iff.1 h1).1
    rw [hf.len] at hlt
    show (bs[k]?).isSome = true
    rw [List.getElem?_eq_getElem hlt]; rfl
  · cases id with
    | loc j => simp [Hp.get] at h
    | par k =>
      have hlt := (List.getElem?_eq_some_iff.1 h).1
      obtain ⟨i, b', h1, h2, h3, h4, h5⟩ := hf.par (φ := φ) (k := k) (by simpa [inI] using hlt)
      have hb : bs[k]? = .some b := h
      rw [h2] at hb; cases hb
      exact BR.back hf h2 (by rw [h3]; exact S.blk _ _ h4)

theorem more_get {l : List Blk} {i : Id} : (H.more l).get i = match i with | .par k => H.get (.par k) | .loc j => if j < H.loc.length then H.get (.loc j) else l[j - H.loc.length]? := by
  cases i with
  | par k => rfl
  | loc j =>
    simp only [Hp.more, Hp.get]
    split
    · rename_i h; rw [List.getElem?_append_left h]
    · rename_i h; rw [List.getElem?_append_right (by omega)]

theorem idxOf_at : ∀ {l : List Id} (_ : l.Nodup) {k : Nat} {i : Id}, l[k]? = some i → l.idxOf i = k := by
  intro l
  induction l with
  | nil => intro _ k i h; simp at h
  | cons a l ih =>
    intro hn k i h
    rw [List.nodup_cons] at hn
    cases k with
    | zero => simp only [List.getElem?_cons_zero, Option.some.injEq] at h; subst h; simp
    | succ k =>
      have h : l[k]? = some i := by simpa using h
      have hne : ¬ a = i := fun e => hn.1 (e ▸ List.mem_of_getElem? h)
      rw [List.idxOf_cons]
      have : (a == i) = false := by simpa using hne
      rw [this, cond_false, ih hn.2 h]

theorem frame_go {bs : List Blk} (hf : Fits H is bs) (hS : SRel G φ H F w) (E : Evo (phiC is φ) ⟨bs, []⟩ F w φc Hc F' w') (S : SRel G φc Hc F' w') :
    ∃ φ', Evo φ H F w φ' (backH is H Hc) F' w' ∧ SRel G φ' (backH is H Hc) F' w' ∧ ∀ {a : AV} {x : Value}, AR φc Hc F' w' a x → AR φ' (backH is H Hc) F' w' (a.ren (rho is H.loc.length)) x := by
  have hpar : Hc.par.length = bs.length := E.npar
  let φ' : Pl := fun i => if i ∈ is then φc (.par (is.idxOf i)) else match i with
    | .par k => φ (.par k)
    | .loc j => if j < H.loc.length then φ (.loc j) else φc (.loc (j - H.loc.length))
  have hold : ∀ {i b}, H.get i = some b → ∀ j, i = .loc j → j < H.loc.length := by
    rintro i b h j rfl
    exact (List.getElem?_eq_some_iff.1 h).1
  have hloc : ∀ {i}, i ∈ is → ∀ j, i = .loc j → j < H.loc.length := by
    intro i hi
    obtain ⟨b, hb⟩ := Option.isSome_iff_exists.1 (hf.isS hi)
    exact hold hb
  have p1 : ∀ {k i}, is[k]? = some i → φ' i = φc (.par k) := by
    intro k i h
    have hi : i ∈ is := List.mem_of_getElem? h
    have : is.idxOf i = k := idxOf_at hf.nodup h
    simp only [φ', hi, if_true, this]
  have p2 : ∀ {i b}, i ∉ is → H.get i = some b → φ' i = φ i := by
    intro i b h hb
    simp only [φ', h, if_false]
    cases i with
    | par k => rfl
    | loc j => simp only [hold hb j rfl, if_true]
  have p3 : ∀ j, φ' (.loc (H.loc.length + j)) = φc (.loc j) := by
    intro j
    have : Id.loc (H.loc.length + j) ∉ is := by intro h; have := hloc h _ rfl; omega
    simp only [φ', this, if_false]
    rw [if_neg (by omega)]
    congr 2; omega
  have g0 : ∀ {i : Id}, (∀ j, i = .loc j → j < H.loc.length) → (backH is H Hc).get i = (H.puts is (Hc.par.map (Blk.ren (rho is H.loc.length)))).get i := by
    intro i hi
    unfold backH
    rw [more_get]
    cases i with
    | par k => rfl
    | loc j =>
      have hj := hi j rfl
      rw [← (puts_len is (Hc.par.map (Blk.ren (rho is H.loc.length))) H).loc] at hj
      simp only [hj, if_true]
  have g1 : ∀ {k : Nat} {i : Id} {b : Blk}, is[k]? = some i → Hc.par[k]? = some b → (backH is H Hc).get i = some (b.ren (rho is H.loc.length)) := by
    intro k i b h hb
    have hi : i ∈ is := List.mem_of_getElem? h
    rw [g0 (hloc hi)]
    exact puts_at hf.nodup (fun i hi => hf.isS hi) h (by rw [List.getElem?_map, hb]; rfl)
  have g2 : ∀ {i : Id} {b : Blk}, i ∉ is → H.get i = some b → (backH is H Hc).get i = some b := by
    intro i b h hb
    rw [g0 (hold hb), puts_other h, hb]
  have g3 : ∀ j, (backH is H Hc).get (.loc (H.loc.length + j)) = (Hc.loc[j]?).map (Blk.ren (rho is H.loc.length)) := by
    intro j
    have hl := (puts_len is (Hc.par.map (Blk.ren (rho is H.loc.length))) H).loc
    unfold backH
    rw [more_get]
    simp only
    rw [if_neg (by omega), List.getElem?_map]
    congr 2; omega
  have R : ∀ i c, Hc.get i = some c → c ≠ .hole → (backH is H Hc).get (rho is H.loc.length i) = some (c.ren (rho is H.loc.length)) ∧ φ' (rho is H.loc.length i) = φc i := by
    intro i c h _
    cases i with
    | par k =>
      have hk : k < is.length := by have := (List.getElem?_eq_some_iff.1 h).1; rw [hf.len]; omega
      have e : is[k]? = some is[k] := List.getElem?_eq_getElem hk
      simp only [rho, e]
      exact ⟨g1 e h, p1 e⟩
    | loc j =>
      simp only [rho]
      refine ⟨?_, p3 j⟩
      have h : Hc.loc[j]? = some c := h
      rw [g3, h]; rfl
  have back : ∀ {i r}, φ' i = some r → (∃ c, rho is H.loc.length c = i ∧ φc c = some r ∧ (Hc.get c).isSome) ∨ (i ∉ is ∧ φ i = some r ∧ ∃ b, H.get i = some b) := by
    intro i r h
    by_cases hi : i ∈ is
    · obtain ⟨k, hk⟩ := List.getElem?_of_mem hi
      rw [p1 hk] at h
      exact .inl ⟨.par k, by simp only [rho, hk], h, S.has _ _ h⟩
    · cases i with
      | par k =>
        simp only [φ', hi, if_false] at h
        obtain ⟨b, hb⟩ := Option.isSome_iff_exists.1 (hS.has _ _ h)
        exact .inr ⟨hi, h, b, hb⟩
      | loc j =>
        simp only [φ', hi, if_false] at h
        split at h
        · obtain ⟨b, hb⟩ := Option.isSome_iff_exists.1 (hS.has _ _ h)
          exact .inr ⟨hi, h, b, hb⟩
        · exact .inl ⟨.loc (j - H.loc.length), by simp only [rho]; congr 1; omega, h, S.has _ _ h⟩
  have inC : ∀ {c r}, phiC is φ c = some r → ∃ k i, c = .par k ∧ is[k]? = some i ∧ φ i = some r := by
    intro i r h
    cases i with
    | loc j => cases h
    | par k =>
      simp only [phiC] at h
      split at h
      · rename_i j hj; exact ⟨k, j, rfl, hj, h⟩
      · cases h
  have rinj : ∀ {c d}, (Hc.get c).isSome → (Hc.get d).isSome → rho is H.loc.length c = rho is H.loc.length d → c = d := by
    have hp : ∀ {k}, (Hc.get (.par k)).isSome → ∃ i, is[k]? = some i := by
      intro k hc
      obtain ⟨b, hb⟩ := Option.isSome_iff_exists.1 hc
      have hlt : k < Hc.par.length := (List.getElem?_eq_some_iff.1 hb).1
      exact ⟨_, List.getElem?_eq_getElem (by rw [hf.len, ← hpar]; exact hlt)⟩
    intro c d hc hd e
    cases c with
    | par k =>
      obtain ⟨i, hi⟩ := hp hc
      simp only [rho, hi] at e
      cases d with
      | par m =>
        obtain ⟨j, hj⟩ := hp hd
        simp only [rho, hj] at e
        subst e
        rw [(List.getElem?_inj (List.getElem?_eq_some_iff.1 hi).1 hf.nodup).1 (hi.trans hj.symm)]
      | loc m =>
        have := hloc (List.mem_of_getElem? hi) _ e
        omega
    | loc k =>
      cases d with
      | par m =>
        obtain ⟨j, hj⟩ := hp hd
        simp only [rho, hj] at e
        have := hloc (List.mem_of_getElem? hj) _ e.symm
        omega
      | loc m => simp only [rho, Id.loc.injEq] at e; congr 1; omega
  have E' : Evo φ H F w φ' (backH is H Hc) F' w' := by
    refine { os := E.os, tape := E.tape, output := E.output, size := E.size, keep := fun r hr h => E.keep r hr fun c hc => ?_, kp := E.kp, newF := fun b o f => ?_, new := fun i r h => ?_, be := fun i b hb => ?_, shp := E.shp, npar := ?_ }
    · obtain ⟨k, i, rfl, h1, h2⟩ := inC hc
      exact h i h2
    · rcases E.newF b o f with f | ⟨c, hc⟩ | f
      · exact .inl f
      · obtain ⟨k, i, rfl, h1, h2⟩ := inC hc
        exact .inr (.inl ⟨i, h2⟩)
      · exact .inr (.inr f)
    · rcases back h with ⟨c, rfl, hc, hs⟩ | ⟨_, h, _⟩
      · rcases E.new c r hc with hn | hn
        · obtain ⟨k, i, rfl, h1, h2⟩ := inC hn
          exact .inl (by simp only [rho, h1]; exact h2)
        · exact .inr hn
      · exact .inl h
    · by_cases hi : i ∈ is
      · obtain ⟨k, hk⟩ := List.getElem?_of_mem hi
        have hlt := (List.getElem?_eq_some_iff.1 hk).1
        rw [hf.len] at hlt
        have hbk : bs[k]? = some bs[k] := List.getElem?_eq_getElem hlt
        have hg := hf.get k i _ hk hbk
        rw [hb] at hg; cases hg
        obtain ⟨b', hb', e⟩ := E.be (.par k) bs[k] hbk
        refine ⟨_, g1 hk hb', ?_⟩
        have e1 := p1 hk
        have e2 : phiC is φ (.par k) = φ i := by simp only [phiC, hk]
        revert e
        generalize bs[k] = b0
        intro e
        cases b0 <;> cases b' <;> simp only [BE, Blk.ren, e1, ← e2] at e ⊢ <;> exact e
      · refine ⟨b, g2 hi hb, ?_⟩
        have := p2 hi hb
        cases b <;> simp_all [BE]
    · exact (puts_len is _ H).par
  refine ⟨φ', E', ⟨fun i j r hi hj => ?_, fun i r h => ?_, fun i r h => ?_, fun id b hb => ?_, S.glob, S.fin⟩, fun h => h.ren R⟩
  · have mixed : ∀ {c j}, φc c = some r → j ∉ is → φ j = some r → False := by
      intro c j hc hj h
      rcases E.new c r hc with hn | hn
      · obtain ⟨k, i, rfl, h1, h2⟩ := inC hn
        have := hS.inj _ _ _ h2 h
        subst this
        exact hj (List.mem_of_getElem? h1)
      · have := hS.dom j r h
        omega
    rcases back hi with ⟨c, rfl, hc, hs⟩ | ⟨h1, h2, _⟩ <;> rcases back hj with ⟨d, rfl, hd, hs'⟩ | ⟨h3, h4, _⟩
    · rw [S.inj c d r hc hd]
    · exact (mixed hc h3 h4).elim
    · exact (mixed hd h1 h2).elim
    · exact hS.inj i j r h2 h4
  · rcases back h with ⟨c, rfl, hc, hs⟩ | ⟨_, h, _⟩
    · exact S.dom c r hc
    · exact Nat.lt_of_lt_of_le (hS.dom i r h) E.size
  · rcases back h with ⟨c, rfl, hc, hs⟩ | ⟨h1, h2, b, hb⟩
    · obtain ⟨b, hb⟩ := Option.isSome_iff_exists.1 hs
      by_cases hh : b = .hole
      · subst hh
        have := S.blk c _ hb
        simp only [BR, hc] at this
        cases this
      · rw [(R c b hb hh).1]; rfl
    · rw [g2 h1 hb]; rfl
  · have new : ∀ {c b0}, Hc.get c = some b0 → φ' (rho is H.loc.length c) = φc c → BR φ' (backH is H Hc) F' w' (rho is H.loc.length c) (b0.ren (rho is H.loc.length)) := fun h e => (S.blk _ _ h).ren R e
    by_cases hi : id ∈ is
    · obtain ⟨k, hk⟩ := List.getElem?_of_mem hi
      have hlt := (List.getElem?_eq_some_iff.1 hk).1
      rw [hf.len, ← hpar] at hlt
      have hbk : Hc.par[k]? = some Hc.par[k] := List.getElem?_eq_getElem hlt
      rw [g1 hk hbk] at hb
      cases hb
      have e : rho is H.loc.length (.par k) = id := by simp only [rho, hk]
      have := new (c := .par k) hbk (by rw [e]; exact p1 hk)
      rwa [e] at this
    · by_cases ho : ∃ b0, H.get id = some b0
      · obtain ⟨b0, h0⟩ := ho
        rw [g2 hi h0] at hb
        cases hb
        refine BR.evo E' (p2 hi h0) (fun r hr => E.keep r (hS.dom id r hr) fun c hc => ?_) (fun r o hr => ⟨fun f => ?_, E.kp.mono r o⟩) (hS.blk id b h0)
        · obtain ⟨k, i, rfl, h1, h2⟩ := inC hc
          have := hS.inj _ _ _ h2 hr
          subst this
          exact hi (List.mem_of_getElem? h1)
        · rcases E.newF r o f with f | ⟨c, hc⟩ | f
          · exact f
          · obtain ⟨k, i, rfl, h1, h2⟩ := inC hc
            have := hS.inj _ _ _ h2 hr
            subst this
            exact absurd (List.mem_of_getElem? h1) hi
          · have := hS.dom id r hr; omega
      · have hn : H.get id = none := by
          cases h : H.get id with
          | none => rfl
          | some b0 => exact absurd ⟨b0, h⟩ ho
        cases id with
        | par k =>
          have h1 : (backH is H Hc).get (.par k) = H.get (.par k) := by rw [g0 (by intro j e; cases e), puts_other hi]
          rw [h1, hn] at hb; cases hb
        | loc j =>
          have hj : H.loc.length ≤ j := by
            have hn : H.loc[j]? = none := hn
            exact List.getElem?_eq_none_iff.1 hn
          obtain ⟨m, rfl⟩ : ∃ m, j = H.loc.length + m := ⟨j - H.loc.length, by omega⟩
          rw [g3] at hb
          obtain ⟨b0, h0, rfl⟩ := Option.map_eq_some_iff.1 hb
          exact new (c := .loc m) h0 (p3 m)

/-- A contract beside any other blocks. -/
theorem EvG.frame {g : FuncId} {args : List AV} {bs : List Blk} {Q : AV → Hp → Prop} (h : EvG P G g args ⟨bs, []⟩ Q) (hf : Fits H is bs) (ha : args.all (inA bs.length) = true) :
    EvG P G g (args.map (AV.ren (rho is H.loc.length))) H fun r h => ∃ rc Hc, Q rc Hc ∧ r = rc.ren (rho is H.loc.length) ∧ h = backH is H Hc := by
  refine ⟨h.1, fun φ F w xs hS hx => ?_⟩
  refine (h.2 (phiC is φ) F w xs (hS.back hf) ((F2.mapl.1 hx).all ha fun _ _ hp q => q.back hf hp)).mono fun e w' ⟨rc, Hc, φc, F', x, hr, he, E, S, A⟩ => ?_
  obtain ⟨φ', E', S', A'⟩ := frame_go hf hS E S
  exact ⟨_, _, φ', F', x, ⟨rc, Hc, hr, rfl, rfl⟩, he, E', S', A' A⟩

/-- New blocks that nothing names are forgotten. -/
theorem EvG.drop {g : FuncId} {args : List AV} {Q : AV → Hp → Prop} (h : EvG P G g args H Q) : EvG P G g args H fun r h => (∃ h', Q r h' ∧ underA H.loc.length r = true ∧ underH H.loc.length (cutH H.loc.length h') = true ∧ h = cutH H.loc.length h') ∨ Q r h := by
  refine ⟨h.1, fun φ F w xs hS hx => ?_⟩
  refine (h.2 φ F w xs hS hx).mono fun e w' ⟨r, H', φ', F', x, hr, he, E, S, A⟩ => ?_
  by_cases hu : underA H.loc.length r = true ∧ underH H.loc.length (cutH H.loc.length H') = true
  · obtain ⟨E', S'⟩ := srel_cut (Nat.le_refl _) hu.2 E S
    exact ⟨r, _, _, F', x, .inl ⟨H', hr, hu.1, hu.2, rfl⟩, he, E', S', A.cut hu.1⟩
  · exact ⟨r, H', φ', F', x, .inr hr, he, E, S, A⟩
theorem EvR.drop {g : FuncId} {args : List AV} {v : AV} {h2 : Hp} (h : EvR P G g args H v H') (hu : underA H.loc.length v = true) (hH : underH H.loc.length (cutH H.loc.length H') = true) (he : h2 = cutH H.loc.length H') : EvR P G g args H v h2 := by
  subst he
  refine ⟨h.1, fun φ F w xs hS hx => ?_⟩
  refine (h.2 φ F w xs hS hx).mono fun e w' ⟨r, h', φ', F', x, ⟨e1, e2⟩, he, E, S, A⟩ => ?_
  subst e1 e2
  obtain ⟨E', S'⟩ := srel_cut (Nat.le_refl _) hH E S
  exact ⟨r, _, _, F', x, ⟨rfl, rfl⟩, he, E', S', A.cut hu⟩

theorem more_nil : H.more [] = H := by simp [Hp.more]

theorem EvR.frame {g : FuncId} {args : List AV} {bs bs' ls : List Blk} {v : AV} (h : EvR P G g args ⟨bs, []⟩ v ⟨bs', ls⟩) (hf : Fits H is bs) (ha : args.all (inA bs.length) = true) :
    EvR P G g (args.map (AV.ren (rho is H.loc.length))) H (v.ren (rho is H.loc.length)) (backH is H ⟨bs', ls⟩) :=
  (EvG.frame h hf ha).mono fun _ _ ⟨rc, Hc, ⟨h1, h2⟩, h3, h4⟩ => by subst h1 h2; exact ⟨h3, h4⟩

/-- The same, apart from other memory: for regions whose order is open. -/
theorem LEv.frame {g : FuncId} {args : List AV} {bs bs' : List Blk} {v : AV} (h : EvR P G g args ⟨bs, []⟩ v ⟨bs', []⟩) (hl : bs'.length = bs.length) (hf : Fits H is bs) (ha : args.all (inA bs.length) = true) :
    LEv P G g (args.map (AV.ren (rho is H.loc.length))) H (v.ren (rho is H.loc.length)) (H.puts is (bs'.map (Blk.ren (rho is H.loc.length)))) ⟨is, is⟩ := by
  have at2 : ∀ {H2 : Hp}, SameLen H H2 → (∀ i, i ∈ is → H2.get i = H.get i) → Fits H2 is bs := fun hs hi => ⟨hf.nodup, hf.len, fun k i b h1 h2 => by rw [hi i (List.mem_of_getElem? h1), hs.loc]; exact hf.get k i b h1 h2, hf.ins⟩
  refine ⟨puts_len _ _ _, fun i hi => puts_other hi, fun H2 hs hi => ?_⟩
  have hf2 := at2 hs fun i h => hi i (.inl h)
  have := EvR.frame h hf2 ha
  rw [hs.loc] at this
  refine ⟨H2.puts is (bs'.map (Blk.ren (rho is H.loc.length))), ?_, puts_len _ _ _, fun i hm => ?_, fun i hm => puts_other hm⟩
  · simpa only [backH, hs.loc, List.map_nil, more_nil] using this
  · obtain ⟨k, hk⟩ := List.getElem?_of_mem hm
    have hlt := (List.getElem?_eq_some_iff.1 hk).1
    rw [hf.len, ← hl] at hlt
    have hb : (bs'.map (Blk.ren (rho is H.loc.length)))[k]? = some (bs'[k].ren (rho is H.loc.length)) := by rw [List.getElem?_map, List.getElem?_eq_getElem hlt]; rfl
    rw [puts_at hf.nodup (fun i hi => hf.isS hi) hk hb, puts_at hf.nodup (fun i hi => hf2.isS hi) hk hb]
end
def nodupB : List Id → Bool
  | [] => true
  | i :: is => is.all (fun j => !idEq i j) && nodupB is
theorem nodup_of : ∀ {is : List Id}, nodupB is = true → is.Nodup
  | [], _ => List.nodup_nil
  | i :: is, h => by
    simp only [nodupB, Bool.and_eq_true, List.all_eq_true] at h
    refine List.nodup_cons.2 ⟨fun hi => ?_, nodup_of h.2⟩
    have := h.1 i hi
    rw [idEq_eq.2 rfl] at this
    cases this
def fitsL (H : Hp) (ρ : Id → Id) : List Id → List Blk → Prop
  | [], [] => True
  | i :: is, b :: bs => H.get i = some (b.ren ρ) ∧ fitsL H ρ is bs
  | _, _ => False
theorem fitsL_get {H : Hp} {ρ : Id → Id} : ∀ {is : List Id} {bs : List Blk}, fitsL H ρ is bs → is.length = bs.length ∧ ∀ (k : Nat) (i : Id) (b : Blk), is[k]? = some i → bs[k]? = some b → H.get i = some (b.ren ρ)
  | [], [], _ => ⟨rfl, fun k i b h => by simp at h⟩
  | i :: is, b :: bs, h => by
    obtain ⟨h1, h2⟩ := fitsL_get h.2
    refine ⟨by simp [h1], fun k i' b' e1 e2 => ?_⟩
    cases k with
    | zero =>
      simp only [List.getElem?_cons_zero, Option.some.injEq] at e1 e2
      subst e1 e2
      exact h.1
    | succ k => exact h2 k i' b' (by simpa using e1) (by simpa using e2)
  | [], _ :: _, h => h.elim
  | _ :: _, [], h => h.elim
theorem Fits.of {H : Hp} {is : List Id} {bs : List Blk} (h1 : nodupB is = true) (h2 : fitsL H (rho is H.loc.length) is bs) (h3 : bs.all (inB bs.length) = true) : Fits H is bs :=
  ⟨nodup_of h1, (fitsL_get h2).1, (fitsL_get h2).2, h3⟩

section
variable {P : Program} {G : Gl} {H : Hp}

/-- A contract at the caller's heap. -/
theorem EvR.fr (is : List Id) {g : FuncId} {args args' : List AV} {bs bs' ls : List Blk} {v : AV} (h : EvR P G g args ⟨bs, []⟩ v ⟨bs', ls⟩) (ha : args' = args.map (AV.ren (rho is H.loc.length))) (h1 : nodupB is = true) (h2 : fitsL H (rho is H.loc.length) is bs) (h3 : (bs.all (inB bs.length) && args.all (inA bs.length)) = true) : EvR P G g args' H (v.ren (rho is H.loc.length)) (backH is H ⟨bs', ls⟩) := by
  rw [Bool.and_eq_true] at h3
  subst ha
  exact EvR.frame h (.of h1 h2 h3.1) h3.2
/-- The same in a region whose order is open. -/
theorem LEv.fr (is : List Id) {g : FuncId} {args args' : List AV} {bs bs' : List Blk} {v : AV} (h : EvR P G g args ⟨bs, []⟩ v ⟨bs', []⟩) (ha : args' = args.map (AV.ren (rho is H.loc.length))) (h1 : nodupB is = true) (h2 : fitsL H (rho is H.loc.length) is bs) (h3 : (bs.all (inB bs.length) && args.all (inA bs.length)) = true) (h4 : Nat.beq bs'.length bs.length = true) : LEv P G g args' H (v.ren (rho is H.loc.length)) (H.puts is (bs'.map (Blk.ren (rho is H.loc.length)))) ⟨is, is⟩ := by
  rw [Bool.and_eq_true] at h3
  subst ha
  exact LEv.frame h (Nat.eq_of_beq_eq_true h4) (.of h1 h2 h3.1) h3.2

end

/-! ### The blocks that a call can reach -/
def sig : List Id → Nat → Id → Id
  | [], _, i => i
  | j :: is, k, i => match idEq j i with
    | true => .par k
    | false => sig is (k + 1) i
def idsB : Blk → List Id
  | .mrow cs => cs.flatMap idsC
  | _ => []
def idsBo : Option Blk → List Id
  | some b => idsB b
  | none => []
def reach : Nat → Hp → List Id → List Id → List Id
  | 0, _, _, acc => acc
  | _ + 1, _, [], acc => acc
  | n + 1, H, i :: todo, acc => match inIds i acc with
    | true => reach n H todo acc
    | false => reach n H (idsBo (H.get i) ++ todo) (acc ++ [i])
def backB (is : List Id) (n : Nat) (l : List Id) : Bool := l.all fun j => idEq (rho is n (sig is 0 j)) j
def pickB (is : List Id) (n : Nat) (H : Hp) : List Id → Option (List Blk)
  | [] => some []
  | i :: l => match H.get i with
    | some b => match backB is n (idsB b) with
      | true => match pickB is n H l with
        | some bs => some (b.ren (sig is 0) :: bs)
        | none => none
      | false => none
    | none => none

section
variable {P : Program} {G : Gl} {H : Hp} {ρ σ : Id → Id}

theorem ren_ren_C {c : C} (h : (idsC c).all (fun j => idEq (ρ (σ j)) j) = true) : (c.ren σ).ren ρ = c := by
  cases c with
  | ptr i o => simp only [idsC, List.all_cons, List.all_nil, Bool.and_true] at h; simp only [C.ren]; rw [idEq_eq.1 h]
  | ap i n j o => simp only [idsC, List.all_cons, List.all_nil, Bool.and_true] at h; simp only [C.ren]; rw [idEq_eq.1 h]
  | os i n => simp only [idsC, List.all_cons, List.all_nil, Bool.and_true] at h; simp only [C.ren]; rw [idEq_eq.1 h]
  | fn g caps =>
    simp only [C.ren]
    congr 1
    rw [List.map_map]
    conv => rhs; rw [← List.map_id caps]
    refine List.map_congr_left fun i hi => ?_
    exact idEq_eq.1 (List.all_eq_true.1 h i hi)
  | _ => rfl
theorem ren_ren_Cs {cs : List C} (h : (cs.flatMap idsC).all (fun j => idEq (ρ (σ j)) j) = true) : (cs.map (C.ren σ)).map (C.ren ρ) = cs := by
  rw [List.map_map]
  conv => rhs; rw [← List.map_id cs]
  refine List.map_congr_left fun c hc => ?_
  exact ren_ren_C (List.all_eq_true.2 fun i hi => List.all_eq_true.1 h i (List.mem_flatMap.2 ⟨c, hc, hi⟩))
theorem ren_ren_A1 {a : AV} (h : (idsA a).all (fun j => idEq (ρ (σ j)) j) = true) : (a.ren1 σ).ren1 ρ = a := by
  cases a with
  | c c => simp only [AV.ren1]; rw [ren_ren_C h]
  | mg cs => simp only [AV.ren1]; rw [ren_ren_Cs h]
  | _ => rfl
theorem ren_ren_A {a : AV} (h : (idsT a).all (fun j => idEq (ρ (σ j)) j) = true) : (a.ren σ).ren ρ = a := by
  cases a with
  | tup vs =>
    simp only [AV.ren]
    congr 1
    rw [List.map_map]
    conv => rhs; rw [← List.map_id vs]
    refine List.map_congr_left fun c hc => ?_
    exact ren_ren_A1 (List.all_eq_true.2 fun i hi => List.all_eq_true.1 h i (List.mem_flatMap.2 ⟨c, hc, hi⟩))
  | c c => exact ren_ren_A1 (a := .c c) h
  | mg cs => exact ren_ren_A1 (a := .mg cs) h
  | un => rfl
  | agg cs => rfl
theorem ren_ren_B {b : Blk} (h : (idsB b).all (fun j => idEq (ρ (σ j)) j) = true) : (b.ren σ).ren ρ = b := by
  cases b with
  | mrow cs => simp only [Blk.ren]; rw [ren_ren_Cs h]
  | _ => rfl
theorem pickB_fits {is : List Id} {n : Nat} : ∀ {l : List Id} {bs : List Blk}, pickB is n H l = some bs → fitsL H (rho is n) l bs
  | [], bs, h => by simp only [pickB, Option.some.injEq] at h; subst h; trivial
  | i :: l, bs, h => by
    simp only [pickB] at h
    split at h
    · rename_i b hb
      split at h
      · rename_i hk
        split at h
        · rename_i bs' hp
          simp only [Option.some.injEq] at h
          subst h
          exact ⟨by rw [hb, ren_ren_B hk], pickB_fits hp⟩
        · cases h
      · cases h
    · cases h

/-- A call by way of the blocks that it can reach. -/
theorem LEv.reach (is : List Id) {g : FuncId} {args : List AV} {bs bs' ls : List Blk} {v : AV} (hp : pickB is H.loc.length H is = some bs) (hn : nodupB is = true) (ha : backB is H.loc.length (args.flatMap idsT) = true)
    (hin : (bs.all (inB bs.length) && (args.map (AV.ren (sig is 0))).all (inA bs.length)) = true)
    (h : EvR P G g (args.map (AV.ren (sig is 0))) ⟨bs, []⟩ v ⟨bs', ls⟩) (hu : (underA 0 v && underH 0 ⟨bs', []⟩) = true) (hl : Nat.beq bs'.length bs.length = true) :
    LEv P G g args H (v.ren (rho is H.loc.length)) (H.puts is (bs'.map (Blk.ren (rho is H.loc.length)))) ⟨is, is⟩ := by
  rw [Bool.and_eq_true] at hu
  have h2 : EvR P G g (args.map (AV.ren (sig is 0))) ⟨bs, []⟩ v ⟨bs', []⟩ := EvR.drop h hu.1 (by simpa [cutH] using hu.2) (by simp [cutH])
  refine LEv.fr is h2 ?_ hn (pickB_fits hp) hin hl
  rw [List.map_map]
  conv => lhs; rw [← List.map_id args]
  refine List.map_congr_left fun a hm => ?_
  exact (ren_ren_A (List.all_eq_true.2 fun i hi => List.all_eq_true.1 ha i (List.mem_flatMap.2 ⟨a, hm, hi⟩))).symm
end
end Go.Ab
