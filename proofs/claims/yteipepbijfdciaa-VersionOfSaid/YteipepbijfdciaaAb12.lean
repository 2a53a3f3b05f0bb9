/- From a law of abstract values to the row's contract. No condition. -/
import Derived.Test.YteipepbijfdciaaAb11
set_option linter.unusedSimpArgs false
set_option linter.unusedVariables false
namespace Go.Ab
open Go Go.ChangeShapes Go.RowKit

def argAV : Sh → List PV → AV
  | .st _, cs => .agg cs
  | .arr .., cs => .agg cs
  | _, [p] => .c (.p p)
  | _, _ => .un

def argAVs : List Sh → List (List PV) → List AV
  | s :: r, p :: q => argAV s p :: argAVs r q
  | _, _ => []

def wts : List Sh → List (List PV) → Prop
  | [], [] => True
  | s :: r, p :: q => wt s p ∧ wts r q
  | _, _ => False

def pvsOf {H : Type} : List Sh → List (DataW H) → Option (List (List PV))
  | [], [] => some []
  | s :: r, d :: ds => match pvOf s [d], pvsOf r ds with
    | some a, some l => some (a :: l)
    | _, _ => none
  | _, _ => none

section
variable {H : Type} {enc : TypeId × Value → H} {P : Program} {w : World} {sp : Nat → Bool} {held : Bool}

theorem arg_open {n : Nat} {t : TypeId} {v : Value} {d : DataW H} {p : List MemPlace} {sh : Sh} {base : Nat} (h : DataW.Trod enc P w 0 sp held t v d p) (hv : Value.okWide P w .any base t v) (hs : shOf P n t = some sh) (hw : ∀ x ∈ d.weights P t, x ≤ reachBytes)
    (φ : Pl) (Hh : Hp) : ∃ pvs, pvOf sh [d] = some pvs ∧ wt sh pvs ∧ AR φ Hh (allF w) w (argAV sh pvs) v := by
  obtain ⟨fuel, h⟩ := h
  obtain ⟨pvs, h1, h2, h3⟩ := opens n fuel t _ d p sh h hs hw
  refine ⟨pvs, h1, h2, ?_⟩
  have scalar : (∀ cs, v ≠ .agg cs) → ∀ q, pvs = [q] → AR φ Hh (allF w) w (.c (.p q)) v := by
    intro ha q hq
    subst hq
    have hc : v.cells.toList = [v] := by
      cases v with
      | agg cs => exact absurd rfl (ha cs)
      | _ => rfl
    rw [hc] at h3
    cases h3 with
    | cons h _ => exact .ofRp h
  cases n with
  | zero => simp [shOf] at hs
  | succ n =>
    simp only [shOf] at hs
    unfold Value.okWide at hv
    split at hs
    · rename_i ht
      cases hs
      obtain ⟨b, rfl⟩ := h2
      refine scalar (fun cs e => ?_) _ rfl
      subst e; rw [ht] at hv; simp [Cell.okWide, Cell.ok, ht] at hv
    · rename_i k ht
      cases hs
      obtain ⟨b, rfl, -⟩ := h2
      refine scalar (fun cs e => ?_) _ rfl
      subst e; rw [ht] at hv; simp [Cell.okWide, Cell.ok, ht] at hv
    · rename_i ht
      cases hs
      obtain ⟨b, rfl, -⟩ := h2
      refine scalar (fun cs e => ?_) _ rfl
      subst e; rw [ht] at hv; simp [Cell.okWide, Cell.ok, ht] at hv
    · rename_i e ht
      split at hs
      · cases hs
        obtain ⟨b, rfl, -⟩ := h2
        refine scalar (fun cs e => ?_) _ rfl
        subst e; rw [ht] at hv; simp [Cell.okWide, Cell.ok, ht] at hv
      · cases hs
    · rename_i fs ht
      split at hs
      · cases hs
        rw [ht] at hv
        obtain ⟨cs, rfl, -⟩ := hv
        have := AR.one (φ := φ) (H := Hh) (AR1.agg h3)
        simpa [Value.cells, argAV] using this
      · cases hs
    · rename_i N e ht
      split at hs
      · cases hs
        rw [ht] at hv
        obtain ⟨cs, rfl, -⟩ := hv
        have := AR.one (φ := φ) (H := Hh) (AR1.agg h3)
        simpa [Value.cells, argAV] using this
      · cases hs
    · cases hs

theorem args_open {n base : Nat} (φ : Pl) (Hh : Hp) : ∀ {ts : List TypeId} {vs : List Value} {ds : List (DataW H)} {p : List MemPlace} {shs : List Sh}, DataW.TrodAll enc P w 0 sp held ts vs ds p →
    (∀ (j : Nat) t v, ts[j]? = some t → vs[j]? = some v → Value.okWide P w .any base t v) → omap (shOf P n) ts = some shs → (∀ x ∈ DataW.weightsEach P ts ds, x ≤ reachBytes) →
    ∃ pvss, pvsOf shs ds = some pvss ∧ wts shs pvss ∧ F2 (AR φ Hh (allF w) w) (argAVs shs pvss) vs
  | [], vs, ds, p, shs, h, hv, hs, hw => by
    simp only [omap, Option.some.injEq] at hs
    subst hs
    cases vs <;> cases ds <;> simp [DataW.TrodAll] at h
    exact ⟨[], rfl, trivial, .nil⟩
  | t :: ts, vs, ds, p, shs, h, hv, hs, hw => by
    obtain ⟨v, vs', d, ds', p1, q1, rfl, rfl, rfl, h1, h2⟩ := trodAll_cons h
    simp only [omap] at hs
    split at hs
    · rename_i s l e1 e2
      simp only [Option.some.injEq] at hs
      subst hs
      simp only [DataW.weightsEach, List.mem_append] at hw
      obtain ⟨a, a1, a2, a3⟩ := arg_open h1 (hv 0 t v rfl rfl) e1 (fun x hx => hw x (.inl hx)) φ Hh
      obtain ⟨b, b1, b2, b3⟩ := args_open φ Hh h2 (fun j t' v' ht' hv' => hv (j + 1) t' v' (by simpa using ht') (by simpa using hv')) e2 fun x hx => hw x (.inr hx)
      exact ⟨a :: b, by simp [pvsOf, a1, b1], ⟨a2, b2⟩, .cons a3 b3⟩
    · cases hs

theorem trodAll_stays {W W' : World} (hl : laidOutB P = true) (hb : Below W.heap.size W W') : ∀ {ts : List TypeId} {vs : List Value} {ds : List (DataW H)} {p : List MemPlace}, (∀ t ∈ ts, P.readableRec t = true ∧ t < P.types.size) →
    DataW.TrodAll enc P W 0 (fun _ => true) true ts vs ds p → (∀ x ∈ p, x.block < W.heap.size) → DataW.TrodAll enc P W' 0 (fun b => decide (b < W.heap.size)) true ts vs ds p
  | [], vs, ds, p, _, h, _ => by
    cases vs <;> cases ds <;> simp [DataW.TrodAll] at h ⊢
    exact h
  | t :: ts, vs, ds, p, hr, h, hlt => by
    obtain ⟨v, vs', d, ds', p1, q1, rfl, rfl, rfl, h1, h2⟩ := trodAll_cons h
    exact ⟨p1, q1, Below.trod hl (hr t (by simp)).1 (hr t (by simp)).2 h1 hb (fun x hx => hlt x (by simp [hx])), trodAll_stays hl hb (fun t ht => hr t (by simp [ht])) h2 (fun x hx => hlt x (by simp [hx])), rfl⟩

/-- What a variable that reads as listed holds. -/
theorem laid_at {n : Nat} {nm : String} {g : Nat} {t : TypeId} {sh : Sh} {d : DataW Unit} {pvs : List PV} {fuel : Nat} {p : List MemPlace} {cs : Array Value} (hg : P.globalNamed nm = some g) (hv : w.var? P nm = some cs)
    (h : DataW.trod (fun _ => ()) P w 0 (fun _ => true) false fuel t cs.toList = some (d, p)) (hs : shOf P n t = some sh) (hw : (d.weights P t).all (· ≤ reachBytes) = true) (hp : pvOf sh [d] = some pvs) : At (allF w) w g 0 pvs := by
  obtain ⟨q, h1, -, h3⟩ := opens n fuel t _ d p sh h hs fun x hx => by simpa using List.all_eq_true.1 hw x hx
  rw [hp] at h1
  simp only [Option.some.injEq] at h1
  subst h1
  intro j c hc
  obtain ⟨v, v1, v2⟩ := h3.get hc
  have := World.var?_cell hg hv j
  rw [show cs[j]? = some v by simpa using v1] at this
  rw [Nat.zero_add]
  exact ⟨by simp [allF, this], v, this, v2⟩

/-- What a listed variable holds, by one look at the tables. -/
def laidPV (P : Program) (n : Nat) (g : Nat) (d : DataW Unit) : Option (List PV) :=
  match (P.globals[g]?).map (·.type) with
  | some t => match shOf P n t, (d.weights P t).all (· ≤ reachBytes) with
    | some sh, true => pvOf sh [d]
    | _, _ => none
  | none => none

theorem laid_at2 (n : Nat) {nm : String} {g : Nat} {t : TypeId} {d : DataW Unit} {pvs : List PV} {fuel : Nat} {p : List MemPlace} {cs : Array Value} (hg : P.globalNamed nm = some g) (ht : (P.globals[g]?).map (·.type) = some t) (hv : w.var? P nm = some cs)
    (h : DataW.trod (fun _ => ()) P w 0 (fun _ => true) false fuel t cs.toList = some (d, p)) (hp : laidPV P n g d = some pvs) : At (allF w) w g 0 pvs := by
  unfold laidPV at hp
  rw [ht] at hp
  dsimp only at hp
  split at hp
  · rename_i sh hs hw
    exact laid_at hg hv h hs hw hp
  · cases hp

/-- The row's contract, out of the law of abstract values: 'true, whatever the input; the input reads as it did'. -/
theorem law_calls {G : Gl} {g : FuncId} {fn : Func} {s : ChangeSpec} {shs : List Sh} (n : Nat) (hsh : omap (shOf P n) fn.params.toList = some shs) (hl : laidOutB P = true) (hr : fn.params.toList.all (fun t => P.readableRec t && decide (t < P.types.size)) = true)
    {tb : TypeId} (hres : fn.resultTypes = #[tb]) (htb : P.underlying tb = some .bool) (hvars : s.vars = []) {fresh handsOn : Bool}
    {W : World} {base : Nat} {args : Array Value} {ds gs : List (DataW H)} {before : List MemPlace}
    (hspec : ∀ {ds : List (DataW H)}, ds.length = fn.params.size → s.fn H ds = { results := [.lit (.bool true)], args := ds })
    (hval : ∀ (j : Nat) t v, fn.params[j]? = some t → args[j]? = some v → Value.okWide P W .any base t v) (hW : DataW.Whole enc P fn.params.toList s.vars false W args.toList ds gs before)
    (hwt : (DataW.weightsEach P (fn.params.toList ++ s.plain.varTypes P) (ds ++ gs)).all (· ≤ reachBytes) = true)
    (hG : ∀ g cs, G g = some cs → At (allF W) W g 0 cs)
    (law : ∀ pvss, wts shs pvss → pvsOf shs ds = some pvss → EvP P G g (argAVs shs pvss) (.c (.p (.bool true)))) :
    Calls P g args W fun e W' => ∃ v, e = .returned v ∧ s.post enc P fn false fresh handsOn false W args v W' := by
  have hW' := hW
  obtain ⟨p, q, hA, hV, rfl, hfz, hnd⟩ := hW
  rw [hvars] at hV
  obtain ⟨rfl, rfl⟩ := trodVars_none hV
  have hlen : ds.length = fn.params.size := by
    have : ∀ {ts : List TypeId} {vs : List Value} {ds : List (DataW H)} {p : List MemPlace}, DataW.TrodAll enc P W 0 (fun _ => true) true ts vs ds p → ds.length = ts.length := by
      intro ts
      induction ts with
      | nil => intro vs ds p h; cases vs <;> cases ds <;> simp [DataW.TrodAll] at h; rfl
      | cons t ts ih =>
        intro vs ds p h
        obtain ⟨v, vs', d, ds', p1, q1, rfl, rfl, rfl, h1, h2⟩ := trodAll_cons h
        simp [ih h2]
    simpa using this hA
  have hvt : s.plain.varTypes P = [] := by simp [ChangeSpec.plain, DataSpec.varTypes, hvars]
  rw [hvt, List.append_nil, List.append_nil] at hwt
  obtain ⟨pvss, h1, h2, h3⟩ := args_open (w := W) (fun _ => none) ⟨[], []⟩ hA (fun j t v ht hv => hval j t v (by simpa using ht) (by simpa using hv)) hsh fun x hx => by simpa using List.all_eq_true.1 hwt x hx
  obtain ⟨-, -, hE⟩ := law pvss h2 h1
  have hS : SRel G (fun _ => none) ⟨[], []⟩ (allF W) W :=
    ⟨(fun _ _ _ h => by cases h), (fun _ _ h => by cases h), (fun _ _ h => by cases h), (fun id b h => by cases id <;> simp [Hp.get] at h), hG, fun b o f => by
      obtain ⟨v, hv⟩ := Option.isSome_iff_exists.1 f
      exact World.block_lt_of_cell? _ _ hv⟩
  have hC := hE.2 _ _ _ _ hS h3
  refine (show Calls P g args W _ from hC).mono fun e W' ⟨r, H', φ', F', x, hr', he, E, S, A⟩ => ?_
  subst hr'
  have hx : x = .bool true := by
    cases A with
    | one h => cases h with
      | c h _ => cases h; rfl
  subst hx
  have hB : Below W.heap.size W W' := ⟨E.os, E.tape, E.output, E.size, fun k hk => E.keep k hk fun _ h => by cases h⟩
  have hlt : ∀ x ∈ p, x.block < W.heap.size := fun x hx => hW'.lt x (by simpa using hx)
  refine ⟨_, he, ds, [], p ++ [], [], p, [], hW', ?_, ?_, ?_, hB.frame _, fun h => by cases h⟩
  · rw [List.append_nil, hspec hlen, hres]
    exact ⟨[], [], ⟨1, by simp [DataW.trod, Value.cells, htb]⟩, rfl, rfl⟩
  · rw [List.append_nil, hspec hlen]
    exact trodAll_stays hl hB (fun t ht => by simpa using List.all_eq_true.1 hr t ht) hA hlt
  · rw [List.append_nil, hspec hlen, hvars]
    rfl
end
end Go.Ab
