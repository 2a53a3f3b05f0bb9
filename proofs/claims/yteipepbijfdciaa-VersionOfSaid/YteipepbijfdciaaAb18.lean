/- Contracts put to use beside other blocks; small conveniences. No condition. -/
import Derived.Test.YteipepbijfdciaaAb17
set_option linter.unusedSimpArgs false
set_option linter.unusedVariables false
namespace Go.Ab
open Go

section
variable {P : Program} {G : Gl} {H : Hp}

theorem EvG.of_wpf (fl m : Bool) (hm : P.follows .mixedOrders = true) {g : FuncId} {sf : SF} (hc : compF P g = some sf) {args : List AV} {Q : AV → Hp → Prop} (hp : Nat.beq args.length sf.np = true)
    (h : wpf P G fl sf.nt sf.body (argsT 0 args) H (endF fl m sf.res Q)) : EvG P G g args H Q := by
  rw [wpf_eq, endF_eq] at h
  exact evG_of m hc (Nat.eq_of_beq_eq_true hp) (SemS.of_wps hm h)

/-- What a function does, new blocks forgotten. -/
theorem EvR.of_cut {g : FuncId} {args : List AV} {v : AV} {H2 : Hp} (h : EvG P G g args H fun r h => r = v ∧ cutH H.loc.length h = H2) (hu : (underA H.loc.length v && underH H.loc.length H2) = true) : EvR P G g args H v H2 := by
  rw [Bool.and_eq_true] at hu
  refine ⟨h.1, fun φ F w xs hS hx => ?_⟩
  refine (h.2 φ F w xs hS hx).mono fun e w' ⟨r, h', φ', F', x, ⟨e1, e2⟩, he, E, S, A⟩ => ?_
  subst e1 e2
  obtain ⟨E', S'⟩ := srel_cut (Nat.le_refl _) hu.2 E S
  exact ⟨r, _, _, F', x, ⟨rfl, rfl⟩, he, E', S', A.cut hu.1⟩
theorem EvR.of_wpfC (fl m : Bool) (hm : P.follows .mixedOrders = true) {g : FuncId} {sf : SF} (hc : compF P g = some sf) {args : List AV} {H2 : Hp} {v : AV} (hp : Nat.beq args.length sf.np = true) (hu : (underA H.loc.length v && underH H.loc.length H2) = true)
    (h : wpf P G fl sf.nt sf.body (argsT 0 args) H (endF fl m sf.res fun r h => r = v ∧ cutH H.loc.length h = H2)) : EvR P G g args H v H2 :=
  EvR.of_cut (EvG.of_wpf fl m hm hc hp h) hu
/-- A nil slice in a variable, taken as one that its owner may append to. -/
theorem SemS.nilT {N : Nat} {s : SC} {T : Tm} {K : Ex → Tm → Hp → Prop} (t sz : Nat) (hsz : 0 < sz) (ht : T.get t = .c .nils) (h : SemS P G N s ((t, .c (.os H.nid 0)) :: T) (H.add (.arr sz false [])) K) : SemS P G N s T H K := by
  intro c hc φ F w fr k cs base hp
  obtain ⟨E2, S2⟩ := weak_add sz hsz hp.srel
  have htr : TRel φ (H.add (.arr sz false [])) F w ((t, .c (.os H.nid 0)) :: T) fr.tmps := by
    intro u
    have hu := hp.trel u
    simp only [Tm.get]
    split
    · rename_i e
      have e := Nat.eq_of_beq_eq_true e
      subst e
      rw [ht] at hu
      exact AR.ofCR (nils_os hu.cc.1) hu.cc.2
    · exact hu.evo E2
  obtain ⟨e, T', H', φ', F', w', tmps', ds', h1, h2, h3, h4⟩ := h c hc φ F w fr k cs base { hp with srel := S2, trel := htr }
  exact ⟨e, T', H', φ', F', w', tmps', ds', h1, E2.trans h2, h3, h4⟩
/-- What is given back comes frozen. -/
theorem EvR.frz {g : FuncId} {args : List AV} {v v' : AV} {H' H2 : Hp} (h : EvR P G g args H v H') (hf : freezeA H' v = some (true, v', H2)) : EvR P G g args H v' H2 := by
  refine ⟨h.1, fun φ F w xs hS hx => ?_⟩
  refine (h.2 φ F w xs hS hx).mono fun e w' ⟨r, h', φ', F', x, ⟨e1, e2⟩, he, E, S, A⟩ => ?_
  subst e1 e2
  obtain ⟨F2, E2, S2, A2⟩ := freezeA_run S A hf rfl
  exact ⟨_, _, φ', F2, x, ⟨rfl, rfl⟩, he, E.trans E2, S2, A2⟩
theorem nd_t {p : Prop} [Decidable p] (h : ¬ p) : (!decide p) = true := by rw [decide_eq_false h]; rfl
theorem nd_f {p : Prop} [Decidable p] (h : p) : (!decide p) = false := by rw [decide_eq_true h]; rfl
theorem part_all {n : Nat} {p : List PV} (h : p.length = n) : partP true n p 0 = some (true, .agg p) := by
  simp only [partP, List.drop_zero, h, Nat.zero_add, Nat.le_refl, decide_true]
  rw [List.take_of_length_le (by omega)]
theorem put_all {α : Type} {cs us : List α} (h : us.length = cs.length) : putAt cs 0 us = us := by
  simp [putAt, h]

theorem wrap64 {n : Int} (h : -9223372036854775808 ≤ n ∧ n < 9223372036854775808) : IntKind.i64.wrap n = n := by
  simp [IntKind.wrap, IntKind.signed, IntKind.bits]; omega

theorem wrap16 {n : Int} (h : 0 ≤ n ∧ n < 65536) : IntKind.u16.wrap n = n := by
  simp [IntKind.wrap, IntKind.signed, IntKind.bits]; omega
theorem wrap8 {n : Int} (h : 0 ≤ n ∧ n < 256) : IntKind.u8.wrap n = n := by
  simp [IntKind.wrap, IntKind.signed, IntKind.bits]; omega
theorem wrap32 {n : Int} (h : 0 ≤ n ∧ n < 4294967296) : IntKind.u32.wrap n = n := by
  simp [IntKind.wrap, IntKind.signed, IntKind.bits]; omega
/-- A copy of a slice, whatever its elements. -/
def cloneSF (sz bytes : Nat) : SF := ⟨1, 8, [.t 2], .seq (.reg false [⟨some 2, .move (.v (.c .nils)), none⟩]) (.seq (.seq (.reg false [⟨some 3, .move (.t 0), none⟩, ⟨some 4, .isnil true (.t 3), none⟩]) (.cond (.t 4) (.seq (.reg false [⟨some 2, .move (.v (.c .nils)), none⟩]) .ret) .skip)) (.seq (.reg false [⟨some 5, .lit sz [], none⟩, ⟨some 6, .move (.t 0), none⟩, ⟨some 7, .app sz bytes false (.t 5) (.t 6), none⟩, ⟨some 2, .move (.t 7), none⟩]) .ret))⟩
theorem clone_ok (hm : P.follows .mixedOrders = true) {g : FuncId} {sz bytes : Nat} (hc : compF P g = some (cloneSF sz bytes)) (hsz : 0 < sz) {es : List (List PV)} (hl : es.length * bytes ≤ 2 ^ 47 ∧ es.length < 2 ^ 62) (hz : es.all (fun r => r.length == sz) = true) :
    EvR P G g [.c (.p (.sl es))] ⟨[], []⟩ (.c (.os (.loc 0) es.length)) ⟨[], [.arr sz false es]⟩ := by
  have ev : EvG P G g [.c (.p (.sl es))] ⟨[], []⟩ fun r h => (r = .c .nils ∧ h = ⟨[], []⟩ ∧ es = []) ∨ (r = .c (.os (.loc 0) es.length) ∧ h = ⟨[], [.arr sz false es]⟩) := by
    refine EvG.of_wpf false false hm hc rfl ?_
    have h2 : gd (decide (es.length * bytes ≤ 2 ^ 47 ∧ es.length < 2 ^ 62) && es.all (fun r => r.length == sz)) True := gd_mk (by rw [hz, decide_eq_true hl]; rfl) trivial
    have hcnd := (gd_of h2).1
    cases es with
    | nil =>
      conv => whnf
      refine ⟨?_, ?_⟩
      · conv => whnf
        exact .inl ⟨rfl, rfl, rfl⟩
      · conv => whnf
        refine gd_mk hcnd ?_
        exact .inr ⟨rfl, rfl⟩
    | cons e es =>
      conv => whnf
      refine gd_mk hcnd ?_
      exact .inr ⟨rfl, rfl⟩
  refine (EvG.nilR sz hsz ev).mono ?_
  rintro r h (⟨⟨rfl, -, -⟩ | ⟨rfl, rfl⟩, hn⟩ | ⟨h0, ⟨-, rfl, rfl⟩ | ⟨hr, -⟩, rfl, rfl⟩)
  · exact absurd rfl hn
  · exact ⟨rfl, rfl⟩
  · exact ⟨rfl, rfl⟩
  · cases hr
end
end Go.Ab
