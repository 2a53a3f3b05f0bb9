/- Every operation of the abstract evaluator, held against the model's. No condition. -/
import Derived.Test.YteipepbijfdciaaAb3l
set_option linter.unusedSimpArgs false
set_option linter.unusedVariables false
namespace Go.Ab
open Go

section
variable {P : Program} {G : Gl} {φ : Pl} {H : Hp} {F : Cl} {w : World} {T : Tm} {ρ : Operand → Value}

theorem run_v {s : Sem Value} {xv : Value} {w w' : World} (h : s.run P w = .ok xv w') : (do pure (Next.value (← s)) : Sem Next).run P w = .ok (.value xv) w' := by
  simp [h]

theorem Snd.val {s : Sem Value} {xv : Value} {w' : World} {φ' : Pl} {F' : Cl} {H' : Hp} {v : AV} (h : s.run P w = .ok xv w') (E : Evo φ H F w φ' H' F' w') (S : SRel G φ' H' F' w') (A : AR φ' H' F' w' v xv) :
    Snd P G (do pure (Next.value (← s))) φ H F w v H' := ⟨_, xv, w', φ', F', run_v h, .inl rfl, E, S, A⟩

theorem Snd.same {s : Sem Value} {xv : Value} {v : AV} (hS : SRel G φ H F w) (h : s.run P w = .ok xv w) (A : AR φ H F w v xv) : Snd P G (do pure (Next.value (← s))) φ H F w v H := Snd.val h (Evo.refl φ H F w) hS A

theorem resOf_spec {r : Option (Bool × AV)} {res : Res} (h : resOf H r = some res) : r = some (res.pre, res.v) ∧ res.h = H := by
  unfold resOf at h
  split at h
  · simp only [Option.some.injEq] at h; subst h; exact ⟨rfl, rfl⟩
  · cases h

theorem compO_rel (hρ : ∀ a s, compA a = some s → AR φ H F w (evS G T s) (ρ a)) {o : Option Operand} {s : Option SA} (h : compO o = some s) :
    (s.map (evS G T) = none ∧ o.map ρ = none) ∨ ∃ av xv, s.map (evS G T) = some av ∧ o.map ρ = some xv ∧ AR φ H F w av xv := by
  unfold compO at h
  split at h
  · simp only [Option.some.injEq] at h; subst h; exact .inl ⟨rfl, rfl⟩
  · split at h
    · rename_i x hx
      simp only [Option.some.injEq] at h
      subst h
      exact .inr ⟨_, _, rfl, rfl, hρ _ _ hx⟩
    · cases h

theorem compAs_rel (hρ : ∀ a s, compA a = some s → AR φ H F w (evS G T s) (ρ a)) : ∀ {l : List Operand} {s : List SA}, compAs l = some s → F2 (AR φ H F w) (s.map (evS G T)) (l.map ρ)
  | [], s, h => by simp only [compAs, Option.some.injEq] at h; subst h; exact .nil
  | a :: l, s, h => by
    simp only [compAs] at h
    split at h
    · rename_i x l' h1 h2
      simp only [Option.some.injEq] at h
      subst h
      exact .cons (hρ _ _ h1) (compAs_rel hρ h2)
    · cases h

theorem capsA_rel : ∀ {as : List AV} {xs : List Value} {l : List Id}, F2 (AR φ H F w) as xs → capsA as = some l → F2 (fun id v => ∃ b r, H.get id = some b ∧ b.isRow = true ∧ φ id = some r ∧ v = .pointer (some ⟨r, 0, none⟩)) l xs
  | [], _, l, .nil, h => by simp only [capsA, Option.some.injEq] at h; subst h; exact .nil
  | a :: as, _, l, .cons ha ht, h => by
    unfold capsA at h
    split at h
    · rename_i heq; cases heq
    · rename_i i r heq
      cases heq
      split at h
      · rename_i l' hl
        simp only [Option.some.injEq] at h
        subst h
        obtain ⟨b, q, h1, h2, h3, h4⟩ := ha.cc.1
        exact .cons ⟨b, q, h1, h2, h3, h4⟩ (capsA_rel ht hl)
      · cases h
    · cases h

theorem unbytes_rel {es : List (List PV)} {l : List UInt8} : unbytes es = some l → ∃ ns : List Int, es = ns.map (fun n => [.int .u8 n]) ∧ l = ns.map fun n => UInt8.ofNat n.toNat := by
  induction es generalizing l with
  | nil => intro h; simp only [unbytes, Option.some.injEq] at h; subst h; exact ⟨[], rfl, rfl⟩
  | cons r es ih =>
    intro h
    unfold unbytes at h
    split at h
    · rename_i heq; cases heq
    · rename_i n r' heq
      cases heq
      split at h
      · rename_i l' hl
        simp only [Option.some.injEq] at h
        subst h
        obtain ⟨ns, rfl, rfl⟩ := ih hl
        exact ⟨n :: ns, rfl, rfl⟩
      · cases h
    · cases h

theorem bytes_vals : ∀ {ns : List Int} {xs : List Value}, F2 (Rp F w) (ns.map (fun n => [PV.int .u8 n])).flatten xs → xs = ns.map (Value.int .u8)
  | [], _, .nil => rfl
  | n :: ns, xs, h => by
    simp only [List.map_cons, List.flatten_cons, List.singleton_append] at h
    cases h with
    | cons h t => cases h; rw [bytes_vals t]; rfl

theorem foldl_pushes : ∀ (ns : List Int) (s : ByteArray), (ns.foldl (fun r n => r.push (UInt8.ofNat n.toNat)) s).data.toList = s.data.toList ++ ns.map fun n => UInt8.ofNat n.toNat
  | [], s => by simp
  | n :: ns, s => by
    rw [List.foldl_cons, foldl_pushes ns]
    simp [ByteArray.push]

theorem cString_run (hS : SRel G φ H F w) {s d e : TypeId} (hs : P.underlying s = some (.slice e)) (he : P.underlying e = some (.int .u8)) (hd : P.underlying d = some .string) {c : C} {x : Value} (hc : CR φ H F w c x) {p : Bool} {l : List UInt8} (h : bytesS H c = some (p, l)) (hp : p = true) :
    ∃ xv, (convert s d x).run P w = .ok xv w ∧ AR φ H F w (.c (.p (.str l))) xv := by
  unfold bytesS at h
  split at h
  · rename_i b es hel
    split at h
    · rename_i l' hu
      simp only [Option.some.injEq, Prod.mk.injEq] at h
      obtain ⟨rfl, rfl⟩ := h
      obtain ⟨ns, rfl, rfl⟩ := unbytes_rel hu
      have hsz : ∀ r ∈ ns.map (fun n => [PV.int .u8 n]), r.length = 1 := by simp
      have key : ∃ a cap xs, x = .slice a ns.length cap ∧ F2 (Rp F w) (ns.map (fun n => [PV.int .u8 n])).flatten xs ∧ xs.length = ns.length ∧ (ns = [] ∨ ∃ bb o, a = some ⟨bb, o, none⟩ ∧ ∀ (j : Nat) (v : Value), xs[j]? = some v → w.cell? ⟨bb, o + j, none⟩ = some v) := by
        obtain ⟨a, cap, rfl, _, hcase⟩ := elemsA_rel hS hc hel hp
        rw [List.length_map]
        rcases hcase with ⟨id, n, rfl⟩ | hsl
        · obtain ⟨sz, fz, es', hg, hn, hv⟩ := hc
          subst hp
          simp only [elemsA, hg, Option.some.injEq, Prod.mk.injEq, decide_eq_true_eq] at hel
          obtain ⟨rfl, rfl⟩ := hel
          obtain ⟨a', cap', xs, hx, _, h1, h2, h3⟩ := os_cells hS hg (hv rfl)
          obtain ⟨rfl, rfl⟩ : a = a' ∧ cap = cap' := by
            have := hx; simp only [List.length_map, Value.slice.injEq] at this; exact ⟨this.1, this.2.2⟩
          refine ⟨a, cap, xs, rfl, h1, ?_, ?_⟩
          · have := h1.len; rw [flat_len hsz] at this; simp only [List.length_map] at this; omega
          · rcases h3 with h3 | ⟨r, rfl, h3⟩
            · exact .inl (by simpa using h3)
            · exact .inr ⟨r, 0, rfl, fun j v hj => by rw [Nat.zero_add]; exact h3 j v hj⟩
        · by_cases hne : ns = []
          · subst hne; exact ⟨a, cap, [], rfl, .nil, rfl, .inl rfl⟩
          · obtain ⟨bb, o, rfl, xs, x1, x2, x3⟩ := slAt_flat hsl hsz (by simpa using hne)
            exact ⟨_, cap, xs, rfl, x1, by simpa using x2, .inr ⟨bb, o, rfl, x3⟩⟩
      obtain ⟨a, cap, xs, rfl, h1, h2, h3⟩ := key
      have hxs := bytes_vals h1
      subst hxs
      rw [run_convert_bytes_string w s d e a ns.length cap hs he hd]
      cases a with
      | none =>
        rcases h3 with rfl | ⟨_, _, h, _⟩
        · exact ⟨.string .empty, by simp [Conv.bytesToString], .ofStr _ rfl⟩
        · cases h
      | some ad =>
        have hload : (loadCells ad ns.length).run P w = .ok (ns.map (Value.int .u8)).toArray w := by
          rcases h3 with rfl | ⟨bb, o, hadd, h3⟩
          · simp [loadCells, loadCellsFrom]
          · cases hadd
            have := run_loadCells_list (P := P) w ⟨bb, o, none⟩ (ns.map (Value.int .u8)) (fun j v hv => by rw [Addr.add_lit]; exact h3 j v hv)
            rwa [List.length_map] at this
        exact ⟨_, run_bytesToString w ad ns.length cap ns hload, .ofStr _ (by rw [foldl_pushes]; rfl)⟩
    · cases h
  · cases h

theorem cBytes_run (hS : SRel G φ H F w) {s d e : TypeId} (hs : P.underlying s = some .string) (hd : P.underlying d = some (.slice e)) (he : P.underlying e = some (.int .u8)) (t : ByteArray) :
    ∃ xv w' F', (convert s d (.string t)).run P w = .ok xv w' ∧ Evo φ H F w φ H F' w' ∧ SRel G φ H F' w' ∧ AR φ H F' w' (.c (.p (.sl (bytesOf t.data.toList)))) xv := by
  have hr := run_bytes_of_string (P := P) w s d e t hs hd he
  have hG : Grown w (w.drew.alloc (.cells (bytesRow t (grownCap w t.size 0 e)) e ((bytesRow t (grownCap w t.size 0 e)).size, (bytesRow t (grownCap w t.size 0 e)).size + 1)))
      (.cells (bytesRow t (grownCap w t.size 0 e)).toList.toArray e ((bytesRow t (grownCap w t.size 0 e)).size, (bytesRow t (grownCap w t.size 0 e)).size + 1)) := by
    simpa using Grown.drewAlloc w _
  obtain ⟨E, S⟩ := snd_frozen hS hG
  refine ⟨_, _, _, hr, E, S, .ofRp (Rp.of_slAt (.inr ⟨w.heap.size, 0, 1, rfl, by omega, fun i r hi => ?_⟩) ?_ (grownCap_ge w _ _ _))⟩
  · unfold bytesOf at hi
    rw [List.getElem?_map] at hi
    cases hb : t.data.toList[i]? with
    | none => rw [hb] at hi; cases hi
    | some b =>
      rw [hb] at hi
      cases hi
      refine ⟨rfl, fun j u hj => ⟨.inr rfl, ?_⟩⟩
      cases j with
      | succ j => simp at hj
      | zero =>
        simp at hj
        subst hj
        refine ⟨.int .u8 b.toNat, ?_, Rp.int _ _⟩
        have hi' : i < t.data.size := by have := (List.getElem?_eq_some_iff.1 hb).1; simpa using this
        have hb' : t.data[i]? = some b := by simpa using hb
        simp only [World.cell?, hG.new, Nat.zero_add, Nat.mul_one, Nat.add_zero]
        simp only [bytesRow, Array.toArray_toList]
        rw [Array.getElem?_append_left (by simpa using hi'), Array.getElem?_map, hb']
        rfl
  · unfold bytesOf
    rw [List.length_map, Array.length_toList]
    rfl

theorem run_eqp1 (d : Nat) {t el : TypeId} (hu : P.underlying t = some (.pointer el)) (b : Option Addr) : (Op.equalIn (d + 1) t (.pointer none) (.pointer b)).run P w = .ok b.isNone w := by
  simp [Op.equalIn, run_underlying hu]
theorem run_eqp2 (d : Nat) {t el : TypeId} (hu : P.underlying t = some (.pointer el)) (a : Addr) : (Op.equalIn (d + 1) t (.pointer (some a)) (.pointer none)).run P w = .ok false w := by
  simp [Op.equalIn, run_underlying hu]

set_option maxHeartbeats 1000000 in
theorem eqS_run (op : BinOp) (hop : op = .eql ∨ op = .neq) {t : TypeId} {x y : SA} {so : SOp} (hc : compBin P op t x y = some so) {a b : Operand} {T : Tm} (ha : AR φ H F w (evS G T x) (ρ a)) (hb : AR φ H F w (evS G T y) (ρ b)) {res : Res} (h : opS G so T H = some res) (hp : res.pre = true) :
    res.h = H ∧ ∃ xv, (do eqGuard op t a b (ρ a) (ρ b); binOp op t (ρ a) (ρ b) : Sem Value).run P w = .ok xv w ∧ AR φ H F w res.v xv := by
  have fin : ∀ {k : EK} {p r : Bool}, so = .eq (op == .eql) k x y → eqS k (evS G T x) (evS G T y) = some (p, r) → (p = true → (do eqGuard op t a b (ρ a) (ρ b); binOp op t (ρ a) (ρ b) : Sem Value).run P w = .ok (.bool (if op = .eql then r else !r)) w) →
      res.h = H ∧ ∃ xv, (do eqGuard op t a b (ρ a) (ρ b); binOp op t (ρ a) (ρ b) : Sem Value).run P w = .ok xv w ∧ AR φ H F w res.v xv := by
    rintro k p r rfl he hrun
    simp only [opS, he, Option.some.injEq] at h
    subst h
    refine ⟨rfl, _, hrun hp, ?_⟩
    rcases hop with rfl | rfl
    · exact AR.ofBool r
    · exact AR.ofBool (!r)
  have none_ : ∀ {k : EK}, so = .eq (op == .eql) k x y → eqS k (evS G T x) (evS G T y) = none → False := by
    rintro k rfl he
    simp [opS, he] at h
  have hcb : compBin P op t x y = match P.underlying t with
    | some (.int _) => some (.eq (op == .eql) .int x y)
    | some .bool => some (.eq (op == .eql) .bool x y)
    | some .string => some (.eq (op == .eql) .str x y)
    | some (.pointer _) => some (.eq (op == .eql) .ptr x y)
    | some (.slice _) => compNil (op == .eql) x y
    | some (.struct _) | some (.array _ _) => match P.eqGuardType P.depth t, kindsT P 20 t with
      | false, some ks => some (.eq (op == .eql) (.agg ks) x y)
      | _, _ => none
    | _ => none := by rcases hop with rfl | rfl <;> rfl
  rw [hcb] at hc
  have agg : (match P.eqGuardType P.depth t, kindsT P 20 t with
      | false, some ks => some (SOp.eq (op == .eql) (.agg ks) x y)
      | _, _ => none) = some so → (∀ ag n, shapeT P t = some (ag, n) → ag = true) → res.h = H ∧ ∃ xv, (do eqGuard op t a b (ρ a) (ρ b); binOp op t (ρ a) (ρ b) : Sem Value).run P w = .ok xv w ∧ AR φ H F w res.v xv := by
    intro hc hag
    split at hc
    · rename_i ks hgd hks
      simp only [Option.some.injEq] at hc
      cases he : eqS (.agg ks) (evS G T x) (evS G T y) with
      | none => exact (none_ hc.symm he).elim
      | some q =>
        obtain ⟨p, r⟩ := q
        refine fin hc.symm he fun hp => ?_
        generalize hX : evS G T x = X at *
        generalize hY : evS G T y = Y at *
        cases X <;> try (simp [eqS] at he; done)
        cases Y <;> try (simp [eqS] at he; done)
        rename_i as bs
        simp only [eqS] at he
        split at he
        · rename_i r' hr
          simp only [Option.some.injEq, Prod.mk.injEq] at he
          obtain ⟨_, rfl⟩ := he
          obtain ⟨xs, hx, hxr⟩ := ha.aggr
          obtain ⟨ys, hy, hyr⟩ := hb.aggr
          rw [hx, hy]
          obtain ⟨ag, n, hs, hlen, hone, heq⟩ := eqAt_of_kinds (w := w) 20 9980 t ks hks
          obtain rfl := hag ag n hs
          have := heq (x := .agg xs.toArray) (y := .agg ys.toArray) rfl rfl hxr hyr hr
          rcases hop with rfl | rfl
          · simp only [Sem.run_bind, run_eqGuard_agg (P := P) w .eql t a b xs.toArray ys.toArray hgd, Result.andThen_ok, run_eql_struct, this]
            rfl
          · simp only [Sem.run_bind, run_eqGuard_agg (P := P) w .neq t a b xs.toArray ys.toArray hgd, Result.andThen_ok, run_neq_struct, this]
            rfl
        · cases he
    · cases hc
  split at hc
  · -- int
    simp only [Option.some.injEq] at hc
    cases he : eqS .int (evS G T x) (evS G T y) with
    | none => exact (none_ hc.symm he).elim
    | some q =>
      obtain ⟨p, r⟩ := q
      refine fin hc.symm he fun hp => ?_
      generalize hX : evS G T x = X at *
      generalize hY : evS G T y = Y at *
      cases X <;> try (simp [eqS] at he; done)
      cases Y <;> try (simp [eqS] at he; done)
      rename_i c1 c2
      cases c1 <;> try (simp [eqS] at he; done)
      cases c2 <;> try (simp [eqS] at he; done)
      rename_i v1 v2
      cases v1 <;> try (simp [eqS] at he; done)
      cases v2 <;> try (simp [eqS] at he; done)
      rename_i k m k' n
      simp only [eqS] at he
      split at he
      · rename_i hk
        simp only [Option.some.injEq, Prod.mk.injEq] at he
        obtain ⟨_, rfl⟩ := he
        obtain rfl : k = k' := by simpa using hk
        rw [ha.int, hb.int]
        rcases hop with rfl | rfl
        · simp only [Sem.run_bind, run_guard_int, Result.andThen_ok, binOp, ne_eq, not_true, if_false, Op.intCmp]; rfl
        · simp only [Sem.run_bind, run_guard_int, Result.andThen_ok, binOp, ne_eq, not_true, if_false, Op.intCmp]; rfl
      · cases he
  · -- bool
    rename_i hu
    simp only [Option.some.injEq] at hc
    cases he : eqS .bool (evS G T x) (evS G T y) with
    | none => exact (none_ hc.symm he).elim
    | some q =>
      obtain ⟨p, r⟩ := q
      refine fin hc.symm he fun hp => ?_
      generalize hX : evS G T x = X at *
      generalize hY : evS G T y = Y at *
      cases X <;> try (simp [eqS] at he; done)
      cases Y <;> try (simp [eqS] at he; done)
      rename_i c1 c2
      cases c1 <;> try (simp [eqS] at he; done)
      cases c2 <;> try (simp [eqS] at he; done)
      rename_i v1 v2
      cases v1 <;> try (simp [eqS] at he; done)
      cases v2 <;> try (simp [eqS] at he; done)
      rename_i m n
      simp only [eqS, Option.some.injEq, Prod.mk.injEq] at he
      obtain ⟨_, rfl⟩ := he
      rw [ha.bool, hb.bool]
      have hq : (Op.equal t (.bool m) (.bool n)).run P w = .ok (decide (m = n)) w := by
        simp only [Op.equal, Op.maxDepth]
        rw [run_equalIn_bool' w 9999 t m n hu]
        cases m <;> cases n <;> rfl
      rcases hop with rfl | rfl
      · simp only [Sem.run_bind, run_guard_bool, Result.andThen_ok, binOp, hq]; rfl
      · simp only [Sem.run_bind, run_guard_bool, Result.andThen_ok, binOp, hq]; rfl
  · -- string
    simp only [Option.some.injEq] at hc
    cases he : eqS .str (evS G T x) (evS G T y) with
    | none => exact (none_ hc.symm he).elim
    | some q =>
      obtain ⟨p, r⟩ := q
      refine fin hc.symm he fun hp => ?_
      generalize hX : evS G T x = X at *
      generalize hY : evS G T y = Y at *
      cases X <;> try (simp [eqS] at he; done)
      cases Y <;> try (simp [eqS] at he; done)
      rename_i c1 c2
      cases c1 <;> try (simp [eqS] at he; done)
      cases c2 <;> try (simp [eqS] at he; done)
      rename_i v1 v2
      cases v1 <;> try (simp [eqS] at he; done)
      cases v2 <;> try (simp [eqS] at he; done)
      rename_i m n
      simp only [eqS, Option.some.injEq, Prod.mk.injEq] at he
      obtain ⟨_, rfl⟩ := he
      obtain ⟨bm, hm, rfl⟩ := ha.str
      obtain ⟨bn, hn, rfl⟩ := hb.str
      rw [hm, hn]
      have hq : (bm.toList == bn.toList) = decide (bm.data.toList = bn.data.toList) := by
        rw [ByteArray.toList_eq, ByteArray.toList_eq]
        by_cases h : bm.data.toList = bn.data.toList
        · simp [h]
        · have h' : ¬ bm.data = bn.data := fun e => h (by rw [e])
          simp [h']
      rcases hop with rfl | rfl
      · simp only [Sem.run_bind, run_guard_str, Result.andThen_ok, binOp, Op.stringOp, hq]; rfl
      · simp only [Sem.run_bind, run_guard_str, Result.andThen_ok, binOp, Op.stringOp, hq]; rfl
  · -- pointer
    rename_i el hu
    simp only [Option.some.injEq] at hc
    cases he : eqS .ptr (evS G T x) (evS G T y) with
    | none => exact (none_ hc.symm he).elim
    | some q =>
      obtain ⟨p, r⟩ := q
      refine fin hc.symm he fun hp => ?_
      have ptr : ∀ {c : C} {v : Value}, CR φ H F w c v → (∃ id o, c = .ptr id o) ∨ (∃ cs, c = .rp cs) → ∃ ad, v = .pointer (some ad) := by
        rintro c v hcr (⟨id, o, rfl⟩ | ⟨cs, rfl⟩)
        · obtain ⟨b, q, _, _, _, rfl⟩ := hcr; exact ⟨_, rfl⟩
        · obtain ⟨b, q, rfl, _⟩ := hcr; exact ⟨_, rfl⟩
      have done_ : ∀ {pa pb : Option Addr}, ρ a = .pointer pa → ρ b = .pointer pb → (Op.equalIn 10000 t (.pointer pa) (.pointer pb)).run P w = .ok r w → (do eqGuard op t a b (ρ a) (ρ b); binOp op t (ρ a) (ρ b) : Sem Value).run P w = .ok (.bool (if op = .eql then r else !r)) w := by
        intro pa pb h1 h2 h3
        rw [h1, h2]
        rcases hop with rfl | rfl
        · simp only [Sem.run_bind, run_guard_ptr, Result.andThen_ok, binOp, Op.equal, Op.maxDepth, h3]; rfl
        · simp only [Sem.run_bind, run_guard_ptr, Result.andThen_ok, binOp, Op.equal, Op.maxDepth, h3]; rfl
      generalize hX : evS G T x = X at *
      generalize hY : evS G T y = Y at *
      cases X <;> try (simp [eqS] at he; done)
      cases Y <;> try (simp [eqS] at he; done)
      rename_i c1 c2
      cases c1 <;> try (simp [eqS] at he; done)
      all_goals cases c2 <;> try (simp [eqS] at he; done)
      all_goals simp only [eqS, Option.some.injEq, Prod.mk.injEq] at he
      all_goals obtain ⟨_, rfl⟩ := he
      · obtain ⟨ad, e1⟩ := ptr ha.cc.1 (.inl ⟨_, _, rfl⟩)
        exact done_ e1 hb.cc.1 (run_eqp2 9999 hu ad)
      · obtain ⟨ad, e1⟩ := ptr ha.cc.1 (.inr ⟨_, rfl⟩)
        exact done_ e1 hb.cc.1 (run_eqp2 9999 hu ad)
      · obtain ⟨ad, e1⟩ := ptr hb.cc.1 (.inl ⟨_, _, rfl⟩)
        exact done_ ha.cc.1 e1 (run_eqp1 9999 hu (some ad))
      · obtain ⟨ad, e1⟩ := ptr hb.cc.1 (.inr ⟨_, rfl⟩)
        exact done_ ha.cc.1 e1 (run_eqp1 9999 hu (some ad))
      · exact done_ ha.cc.1 hb.cc.1 (run_eqp1 9999 hu none)
  · unfold compNil at hc
    split at hc
    · simp only [Option.some.injEq] at hc
      subst hc
      simp [opS] at h
    · cases hc
  · rename_i fs hu
    exact agg hc fun ag n hs => by
      obtain ⟨_, d, _, hu', _, rfl⟩ := shapeT_spec hs
      rw [hu] at hu'; cases hu'; rfl
  · rename_i k e hu
    exact agg hc fun ag n hs => by
      obtain ⟨_, d, _, hu', _, rfl⟩ := shapeT_spec hs
      rw [hu] at hu'; cases hu'; rfl
  · cases hc
end
end Go.Ab
