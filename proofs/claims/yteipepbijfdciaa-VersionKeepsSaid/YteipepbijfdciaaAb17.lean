/- The same memory, described otherwise. No condition. -/
import Derived.Test.YteipepbijfdciaaAb15
set_option linter.unusedSimpArgs false
set_option linter.unusedVariables false
namespace Go.Ab
open Go

/-- What the one heap of abstract blocks describes, the other describes. -/
def Weak (H H2 : Hp) : Prop := ∀ {G : Gl} {φ : Pl} {F : Cl} {w : World}, SRel G φ H F w → ∃ φ2 F2, Evo φ H F w φ2 H2 F2 w ∧ SRel G φ2 H2 F2 w

section
variable {P : Program} {G : Gl} {N : Nat} {φ φ' : Pl} {H H1 H2 : Hp} {F F' : Cl} {w w' : World} {T : Tm}

theorem Weak.refl (H : Hp) : Weak H H := fun S => ⟨_, _, Evo.refl _ _ _ _, S⟩
theorem Weak.trans (h : Weak H H1) (k : Weak H1 H2) : Weak H H2 := fun S => by
  obtain ⟨φ1, F1, E1, S1⟩ := h S
  obtain ⟨φ2, F2, E2, S2⟩ := k S1
  exact ⟨φ2, F2, E1.trans E2, S2⟩

theorem EvG.weakL {g : FuncId} {args : List AV} {Q : AV → Hp → Prop} (hw : Weak H H2) (h : EvG P G g args H2 Q) : EvG P G g args H Q := by
  refine ⟨h.1, fun φ F w xs hS hx => ?_⟩
  obtain ⟨φ2, F2', E2, S2⟩ := hw hS
  refine (h.2 φ2 F2' w xs S2 (hx.imp fun _ _ q => q.evo E2)).mono fun e w' ⟨r, H', φ', F', x, hr, he, E, S, A⟩ => ?_
  exact ⟨r, H', φ', F', x, hr, he, E2.trans E, S, A⟩
theorem EvG.weakR {g : FuncId} {args : List AV} {Q Q' : AV → Hp → Prop} (h : EvG P G g args H Q) (hq : ∀ r h, Q r h → ∃ h2, Weak h h2 ∧ Q' r h2) : EvG P G g args H Q' := by
  refine ⟨h.1, fun φ F w xs hS hx => ?_⟩
  refine (h.2 φ F w xs hS hx).mono fun e w' ⟨r, H', φ', F', x, hr, he, E, S, A⟩ => ?_
  obtain ⟨h2, hw, hr2⟩ := hq r H' hr
  obtain ⟨φ2, F2', E2, S2⟩ := hw S
  exact ⟨r, h2, φ2, F2', x, hr2, he, E.trans E2, S2, A.evo E2⟩
theorem EvR.weakL {g : FuncId} {args : List AV} {v : AV} {H' : Hp} (hw : Weak H H2) (h : EvR P G g args H2 v H') : EvR P G g args H v H' := EvG.weakL hw h
theorem EvR.weakR {g : FuncId} {args : List AV} {v : AV} {H' : Hp} (h : EvR P G g args H v H') (hw : Weak H' H2) : EvR P G g args H v H2 :=
  EvG.weakR h fun _ _ ⟨h1, h2⟩ => ⟨H2, h2 ▸ hw, h1, rfl⟩

theorem SemS.weak {s : SC} {K : Ex → Tm → Hp → Prop} (hw : Weak H H2) (h : SemS P G N s T H2 K) : SemS P G N s T H K := by
  intro c hc φ F w fr k cs base hp
  obtain ⟨φ2, F2', E2, S2⟩ := hw hp.srel
  obtain ⟨e, T', H', φ', F', w', tmps', ds', h1, h2, h3, h4⟩ := h c hc φ2 F2' w fr k cs base { hp with srel := S2, trel := fun t => (hp.trel t).evo E2 }
  exact ⟨e, T', H', φ', F', w', tmps', ds', h1, E2.trans h2, h3, h4⟩

/-- A row, described otherwise. -/
theorem srel_row {id : Id} {b b' : Blk} (hS : SRel G φ H F w) (hg : H.get id = some b) (hb : b.isRow = true) (hb' : b'.isRow = true) (hr : BR φ H F w id b → BR φ H F w id b') :
    Evo φ H F w φ (H.set id b') F w ∧ SRel G φ (H.set id b') F w := by
  have E : Evo φ H F w φ (H.set id b') F w := { Evo.refl φ H F w with
    be := fun i c hc => by
      by_cases h : i = id
      · subst h
        rw [hg] at hc; cases hc
        refine ⟨b', Hp.get_set_self hg, ?_⟩
        cases b <;> cases b' <;> simp_all [BE, Blk.isRow]
      · exact ⟨c, by rw [Hp.get_set_other h]; exact hc, BE.refl φ i c⟩
    npar := by cases id <;> simp [Hp.set] }
  refine ⟨E, hS.inj, hS.dom, fun i r h => ?_, fun i c hc => ?_, hS.glob, hS.fin⟩
  · obtain ⟨c, hc⟩ := Option.isSome_iff_exists.1 (hS.has i r h)
    obtain ⟨c', hc', _⟩ := E.be i c hc
    rw [hc']; rfl
  · by_cases h : i = id
    · subst h
      rw [Hp.get_set_self hg] at hc; cases hc
      exact BR.evo E rfl (fun _ _ => rfl) (fun _ _ _ => Iff.rfl) (hr (hS.blk i b hg))
    · rw [Hp.get_set_other h] at hc
      exact BR.evo E rfl (fun _ _ => rfl) (fun _ _ _ => Iff.rfl) (hS.blk i c hc)

theorem f2_pure {vs : List PV} {xs : List Value} (h : F2 (fun u x => CR φ H F w u x ∧ Flat x) (vs.map .p) xs) : F2 (Rp F w) vs xs := (F2.mapl.1 h).imp fun _ _ q => q.1

/-- A row whose cells come frozen. -/
theorem Weak.row {id : Id} {cs cs' : List C} {vs : List PV} (hg : H.get id = some (.mrow cs)) (hf : freezeCs H cs = some (true, cs', H1)) (hg1 : H1.get id = some (.mrow cs)) (hv : cs' = vs.map .p) : Weak H (H1.set id (.row vs)) := by
  intro G φ F w hS
  obtain ⟨r, c, h1, h2, h3, h4⟩ := hS.blk id _ hg
  obtain ⟨F1, E1, S1, A1⟩ := freezeCs_run hS h4 hf rfl
  obtain ⟨r', c', q1, q2, q3, q4⟩ := S1.blk id _ hg1
  rw [h1] at q1; cases q1
  obtain ⟨e, o1⟩ := h2
  obtain ⟨e', o2⟩ := q2
  subst hv
  obtain ⟨E, S⟩ := srel_row S1 hg1 (b' := .row vs) rfl rfl fun _ => ⟨r, c, h1, ⟨e, o1⟩, q3, f2_pure A1⟩
  exact ⟨φ, F1, E1.trans E, S⟩

/-- Pure cells. -/
theorem Weak.pure {id : Id} {vs : List PV} (hg : H.get id = some (.mrow (vs.map .p))) : Weak H (H.set id (.row vs)) := by
  intro G φ F w hS
  obtain ⟨E, S⟩ := srel_row hS hg (b' := .row vs) rfl rfl fun ⟨r, c, h1, h2, h3, h4⟩ => ⟨r, c, h1, h2, h3, f2_pure h4⟩
  exact ⟨φ, F, E, S⟩

/-- An empty slice that its owner may append to. -/
theorem weak_add (sz : Nat) (hsz : 0 < sz) (hS : SRel G φ H F w) : Evo φ H F w φ (H.add (.arr sz false [])) F w ∧ SRel G φ (H.add (.arr sz false [])) F w := by
  have E : Evo φ H F w φ (H.add (.arr sz false [])) F w := { Evo.refl φ H F w with
    be := fun i c hc => ⟨c, Hp.get_add_old hc, BE.refl φ i c⟩
    npar := by simp [Hp.add] }
  refine ⟨E, hS.inj, hS.dom, fun i r h => ?_, fun i c hc => ?_, hS.glob, hS.fin⟩
  · obtain ⟨c, hc⟩ := Option.isSome_iff_exists.1 (hS.has i r h)
    rw [Hp.get_add_old hc]; rfl
  · rcases Hp.get_add_cases hc with hc | ⟨rfl, rfl⟩
    · exact BR.evo E rfl (fun _ _ => rfl) (fun _ _ _ => Iff.rfl) (hS.blk i c hc)
    · exact ⟨hsz, fun i r h => by simp at h, .inl ⟨no_phi_nid hS, rfl⟩⟩
theorem nils_os {sz : Nat} {x : Value} (h : x = .slice none 0 0) : CR φ (H.add (.arr sz false [])) F w (.os H.nid 0) x :=
  ⟨sz, false, [], Hp.get_add_new, Nat.le_refl _, fun _ => .inl ⟨rfl, none, h⟩⟩

theorem f2_set {α β : Type} {R : α → β → Prop} {as : List α} {bs : List β} (h : F2 R as bs) {j : Nat} {a : α} (ha : ∀ b, bs[j]? = some b → R a b) : F2 R (as.set j a) bs := by
  induction h generalizing j with
  | nil => exact .nil
  | cons h t ih =>
    cases j with
    | zero => exact .cons (ha _ rfl) t
    | succ j => exact .cons h (ih fun b hb => ha b (by simpa using hb))

theorem Weak.nils {id : Id} {cs : List C} {j : Nat} (sz : Nat) (hsz : 0 < sz) (hg : H.get id = some (.mrow cs)) (hj : cs[j]? = some .nils) : Weak H ((H.add (.arr sz false [])).set id (.mrow (cs.set j (.os H.nid 0)))) := by
  intro G φ F w hS
  obtain ⟨E1, S1⟩ := weak_add sz hsz hS
  obtain ⟨E, S⟩ := srel_row S1 (Hp.get_add_old hg) (b' := .mrow (cs.set j (.os H.nid 0))) rfl rfl fun ⟨r, c, h1, h2, h3, h4⟩ => ⟨r, c, h1, h2, h3, f2_set h4 fun x hx => by
    obtain ⟨x', e1, e2, e3⟩ := h4.get hj
    rw [hx] at e1; cases e1
    exact ⟨nils_os e2, e3⟩⟩
  exact ⟨φ, F, E1.trans E, S⟩

/-- A nil slice that is given back, taken as one that its owner may append to. -/
theorem EvG.nilR {g : FuncId} {args : List AV} {Q : AV → Hp → Prop} (sz : Nat) (hsz : 0 < sz) (h : EvG P G g args H Q) : EvG P G g args H fun r h => (Q r h ∧ r ≠ .c .nils) ∨ ∃ h0, Q (.c .nils) h0 ∧ r = .c (.os h0.nid 0) ∧ h = h0.add (.arr sz false []) := by
  refine ⟨h.1, fun φ F w xs hS hx => ?_⟩
  refine (h.2 φ F w xs hS hx).mono fun e w' ⟨r, H', φ', F', x, hr, he, E, S, A⟩ => ?_
  by_cases hn : r = .c .nils
  · subst hn
    obtain ⟨E2, S2⟩ := weak_add sz hsz S
    exact ⟨_, _, φ', F', x, .inr ⟨H', hr, rfl, rfl⟩, he, E.trans E2, S2, AR.ofCR (nils_os A.cc.1) A.cc.2⟩
  · exact ⟨r, H', φ', F', x, .inl ⟨hr, hn⟩, he, E, S, A⟩
end
end Go.Ab
