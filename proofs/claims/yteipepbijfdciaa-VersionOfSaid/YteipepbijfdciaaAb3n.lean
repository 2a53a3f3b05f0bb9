/- Every operation of the abstract evaluator but calls, held against the model's. No condition. -/
import Derived.Test.YteipepbijfdciaaAb3m
import Derived.Laws.Concat
set_option linter.unusedSimpArgs false
set_option linter.unusedVariables false
namespace Go.Ab
open Go

section
variable {P : Program} {G : Gl} {φ : Pl} {H : Hp} {F : Cl} {w : World} {T : Tm} {ρ : Operand → Value}

theorem snd_bin {op : BinOp} {a b : Operand} {t : TypeId} (hS : SRel G φ H F w) {v : AV} {xv : Value} (hg : (eqGuard op t a b (ρ a) (ρ b)).run P w = .ok () w) (h : (binOp op t (ρ a) (ρ b)).run P w = .ok xv w) (A : AR φ H F w v xv) :
    Snd P G (do pure (Next.value (← (do eqGuard op t a b (ρ a) (ρ b); binOp op t (ρ a) (ρ b) : Sem Value)))) φ H F w v H :=
  Snd.same hS (by simp [hg, h]) A

theorem binS_run {op : BinOp} {a b : Operand} {t : TypeId} {x y : AV} (ha : AR φ H F w x (ρ a)) (hb : AR φ H F w y (ρ b)) {p : Bool} {v : AV} (h : binS op x y = some (p, v)) (hp : p = true) :
    (eqGuard op t a b (ρ a) (ρ b)).run P w = .ok () w ∧ ∃ xv, (binOp op t (ρ a) (ρ b)).run P w = .ok xv w ∧ AR φ H F w v xv := by
  unfold binS at h
  split at h
  · rename_i k m k' n
    split at h
    · rename_i b' v' hk hi
      simp only [Option.some.injEq, Prod.mk.injEq] at h
      obtain ⟨rfl, rfl⟩ := h
      obtain rfl : k = k' := by simpa using hk
      rw [ha.int, hb.int]
      obtain ⟨xv, h1, h2⟩ := run_intA (P := P) (w := w) (t := t) hi hp
      exact ⟨run_guard_int op t a b k k m n, xv, h1, h2⟩
    · cases h
  · rename_i m n
    split at h
    · rename_i b' v' hi
      simp only [Option.some.injEq, Prod.mk.injEq] at h
      obtain ⟨rfl, rfl⟩ := h
      obtain ⟨bm, hm, rfl⟩ := ha.str
      obtain ⟨bn, hn, rfl⟩ := hb.str
      rw [hm, hn]
      refine ⟨run_guard_str op t a b bm bn, ?_⟩
      unfold strA at hi
      split at hi
      · simp only [Option.some.injEq, Prod.mk.injEq] at hi
        obtain ⟨rfl, rfl⟩ := hi
        simp only [decide_eq_true_eq, Array.length_toList] at hp
        have hs : bm.size + bn.size ≤ 9223372036854775807 := by
          have e1 : bm.data.size = bm.size := rfl
          have e2 : bn.data.size = bn.size := rfl
          omega
        exact ⟨.string (bm ++ bn), by simp only [binOp]; exact run_string_add_sum w bm bn hs, .ofStr _ (by simp)⟩
      · cases hi
    · cases h
  · cases h

theorem shS_run {op : BinOp} {a b : Operand} {t : TypeId} {x y : AV} (ha : AR φ H F w x (ρ a)) (hb : AR φ H F w y (ρ b)) {p : Bool} {v : AV} (h : shS op x y = some (p, v)) (hp : p = true) :
    (eqGuard op t a b (ρ a) (ρ b)).run P w = .ok () w ∧ ∃ xv, (binOp op t (ρ a) (ρ b)).run P w = .ok xv w ∧ AR φ H F w v xv := by
  unfold shS at h
  split at h
  · rename_i k m k' n
    split at h
    · rename_i b' v' hi
      simp only [Option.some.injEq, Prod.mk.injEq] at h
      obtain ⟨rfl, rfl⟩ := h
      rw [ha.int, hb.int]
      obtain ⟨xv, h1, h2⟩ := run_shiftA (P := P) (w := w) (t := t) (k' := k') hi hp
      exact ⟨run_guard_int op t a b k k' m n, xv, h1, h2⟩
    · cases h
  · cases h

theorem compBin_cases {op : BinOp} {t : TypeId} {x y : SA} {so : SOp} (h : compBin P op t x y = some so) : (so = .sh op x y) ∨ (op = .eql ∨ op = .neq) ∨ so = .bin op x y := by
  cases op <;> simp only [compBin, Option.some.injEq] at h <;> first | exact .inl h.symm | exact .inr (.inr h.symm) | exact .inr (.inl (.inl rfl)) | exact .inr (.inl (.inr rfl))

theorem lenS_run (hS : SRel G φ H F w) {t ty : TypeId} {str : Bool} (ht : if str then P.underlying t = some .string else ∃ e, P.underlying t = some (.slice e)) {a : AV} {x : Value} (ha : AR φ H F w a x) {res : Res} (h : lenS str a H = some res) (hp : res.pre = true) :
    res.h = H ∧ ∃ xv, (Builtin.len_ #[t] ty #[x]).run P w = .ok xv w ∧ AR φ H F w res.v xv := by
  unfold lenS at h
  split at h
  · rename_i s
    simp only [Option.some.injEq] at h
    subst h
    have hu : P.underlying t = some .string := ht
    obtain ⟨b, rfl, rfl⟩ := ha.str
    refine ⟨rfl, .int .i64 b.size, by simp [Builtin.len_, run_underlying hu, goInt], ?_⟩
    have : b.data.toList.length = b.size := by rw [Array.length_toList]; rfl
    rw [this]
    exact AR.ofInt _ _
  · rename_i c
    split at h
    · rename_i b es he
      simp only [Option.some.injEq] at h
      subst h
      obtain ⟨e, hu⟩ := ht
      obtain ⟨ad, cap, rfl, _⟩ := elemsA_rel hS ha.cc.1 he hp
      exact ⟨rfl, .int .i64 es.length, by simp [Builtin.len_, run_underlying hu, goInt], AR.ofInt _ _⟩
    · cases h
  · cases h

theorem max_run {a b : AV} {x y : Value} {ts : Array TypeId} {ty : TypeId} (ha : AR φ H F w a x) (hb : AR φ H F w b y) {v : AV} (h : max2A a b = some v) : ∃ xv, (Builtin.max_ ts ty #[x, y]).run P w = .ok xv w ∧ AR φ H F w v xv := by
  unfold max2A at h
  split at h
  · simp only [Option.some.injEq] at h
    subst h
    rw [ha.int, hb.int]
    exact ⟨_, by simp [Builtin.max_, Builtin.max2], AR.ofInt _ _⟩
  · cases h

theorem min_run {a b : AV} {x y : Value} {ts : Array TypeId} {ty : TypeId} (ha : AR φ H F w a x) (hb : AR φ H F w b y) {v : AV} (h : min2A a b = some v) : ∃ xv, (Builtin.min_ ts ty #[x, y]).run P w = .ok xv w ∧ AR φ H F w v xv := by
  unfold min2A at h
  split at h
  · simp only [Option.some.injEq] at h
    subst h
    rw [ha.int, hb.int]
    exact ⟨_, by simp [Builtin.min_, Builtin.min2], AR.ofInt _ _⟩
  · cases h

theorem ixSl_run (hS : SRel G φ H F w) {t e : TypeId} {j : TypeInfo} (hu : P.underlying t = some (.slice e)) (hj : P.info? e = some j) {a i : AV} {x y : Value} (ha : AR φ H F w a x) (hi : AR φ H F w i y) {res : Res} (h : ixSl j.size a i H = some res) (hp : res.pre = true) :
    res.h = H ∧ ∃ xv, (Instr.indexAt t x y).run P w = .ok xv w ∧ AR φ H F w res.v xv := by
  have frozen : ∀ {es : List (List PV)} {ad : Option Addr} {cap : Nat} {k : IntKind} {n : Int} {cs : List PV}, SlAt F w es ad → x = .slice ad es.length cap → y = .int k n → es[n.toNat]? = some cs → 0 ≤ n → j.size = cs.length →
      ∃ xv, (Instr.indexAt t x y).run P w = .ok xv w ∧ AR φ H F w (.c (.rp cs)) xv := by
    rintro es ad cap k n cs hs rfl rfl hcs hn0 hsz
    have hlt : n.toNat < es.length := (List.getElem?_eq_some_iff.1 hcs).1
    rcases hs with rfl | ⟨b, o, sz, rfl, _, hr⟩
    · simp at hlt
    · obtain ⟨h1, h2⟩ := hr _ _ hcs
      refine ⟨_, run_indexAt_sl hu hj hn0 (by omega) b o, .ofCR ⟨b, _, rfl, ?_⟩ rfl⟩
      rw [hsz, h1]
      exact h2
  unfold ixSl at h
  split at h
  · rename_i id n k iv
    split at h
    · rename_i sz fz es hg
      simp only [Option.some.injEq] at h
      subst h
      simp only [decide_eq_true_eq] at hp
      obtain ⟨h0, h1, rfl, h3⟩ := hp
      rw [hi.int]
      obtain ⟨⟨sz', fz', es', hg', hn, hv⟩, _⟩ := ha.cc
      rw [hg] at hg'
      obtain ⟨rfl, rfl, rfl⟩ : sz' = j.size ∧ fz' = fz ∧ es' = es := by cases hg'; exact ⟨rfl, rfl, rfl⟩
      rcases hv h3 with ⟨h4, _⟩ | ⟨r, cap, ee, kk, hφ, rfl, _⟩
      · omega
      · refine ⟨rfl, _, run_indexAt_sl hu hj h0 h1 r 0, .ofCR ⟨j.size, fz', es', r, _, hg, hn, rfl, fun _ => ⟨hφ, by simp⟩⟩ rfl⟩
    · cases h
  · rename_i es k iv
    split at h
    · rename_i cs hcs
      simp only [Option.some.injEq] at h
      subst h
      simp only [decide_eq_true_eq] at hp
      obtain ⟨ad, cap, hx, _, hs⟩ := Rp.slAt (show Rp F w (.sl es) x from ha.cc.1)
      exact ⟨rfl, frozen hs hx hi.int hcs hp.1 hp.2⟩
    · cases h
  · rename_i es k iv
    split at h
    · rename_i cs hcs
      simp only [Option.some.injEq] at h
      subst h
      simp only [decide_eq_true_eq] at hp
      obtain ⟨ad, hx, hs⟩ := ha.cc.1
      exact ⟨rfl, frozen hs hx hi.int hcs hp.1 hp.2⟩
    · cases h
  · cases h

set_option maxHeartbeats 2000000 in
theorem opS_sound {o : Oper} {so : SOp} (hc : compOp P o.op = some so) {res : Res} (h : opS G so T H = some res) (hp : res.pre = true) (hS : SRel G φ H F w) (hρ : ∀ a s, compA a = some s → AR φ H F w (evS G T s) (ρ a)) :
    Snd P G (execOp ρ o) φ H F w res.v res.h := by
  obtain ⟨dst, op, type, pos, after, guard⟩ := o
  cases op <;> simp only [compOp, reduceCtorEq] at hc
  case move a =>
    split at hc
    · rename_i x hx
      cases hc
      simp only [opS, ret, Option.some.injEq] at h
      subst h
      exact Snd.keep hS rfl (hρ _ _ hx)
    · cases hc
  case assign a =>
    split at hc
    · rename_i x hx
      cases hc
      simp only [opS, ret, Option.some.injEq] at h
      subst h
      exact Snd.keep hS rfl (hρ _ _ hx)
    · cases hc
  case pick c a b =>
    split at hc
    · rename_i z x y hz hx hy
      cases hc
      simp only [opS] at h
      split at h
      · rename_i t ht
        simp only [ret, Option.some.injEq] at h
        subst h
        have hcb := hρ _ _ hz
        rw [ht] at hcb
        have hcv := hcb.bool
        refine Snd.keep (xv := if t then ρ a else ρ b) hS (by simp [execOp, hcv, asBool]) ?_
        cases t
        · exact hρ _ _ hy
        · exact hρ _ _ hx
      · cases h
    · cases hc
  case alloc t =>
    split at hc
    · rename_i cs hz
      split at hc
      · rename_i b hb
        cases hc
        simp only [opS, ret, Option.some.injEq] at h
        subst h
        obtain ⟨i, v, hi, hv, hcs⟩ := zeroCs_spec hz
        have hrel := constCs_rel (φ := φ) (H := H) (F := F) (w := w) hcs
        have hG : Grown w (w.alloc (.cells v.cells t)) (.cells v.cells.toList.toArray t) := by simpa using Grown.alloc w _
        have hcase : (∃ ps, mkAgg cs = .agg ps ∧ F2 (Rp F w) ps v.cells.toList) ∨ (∃ ps, mkAgg cs = .mg ps ∧ F2 (fun c x => CR φ H F w c x ∧ Flat x) ps v.cells.toList) ∨ (∃ c x, mkAgg cs = .c c ∧ v.cells.toList = [x] ∧ CR φ H F w c x ∧ Flat x) := by
          unfold mkAgg
          cases hp' : allPure cs with
          | none => exact .inr (.inl ⟨cs, rfl, hrel⟩)
          | some ps => rw [allPure_map hp'] at hrel; exact .inl ⟨ps, rfl, (F2.mapl.1 hrel).imp fun _ _ q => q.1⟩
        obtain ⟨E, S, A⟩ := snd_row hS hG hb hcase
        exact Snd.val (by simp [Instr.alloc, zeroValue, typeInfo, hi, hv, newVar, newRow]) E S A
      · cases hc
    · cases hc
  case box t a =>
    split at hc
    · rename_i x hx
      cases hc
      simp only [opS] at h
      split at h
      · rename_i b hb
        simp only [ret, Option.some.injEq] at h
        subst h
        have hr := hρ _ _ hx
        have hG : Grown w (w.alloc (.cells (ρ a).cells t)) (.cells (ρ a).cells.toList.toArray t) := by simpa using Grown.alloc w _
        have hcase : (∃ ps, evS G T x = .agg ps ∧ F2 (Rp F w) ps (ρ a).cells.toList) ∨ (∃ ps, evS G T x = .mg ps ∧ F2 (fun c x => CR φ H F w c x ∧ Flat x) ps (ρ a).cells.toList) ∨ (∃ c y, evS G T x = .c c ∧ (ρ a).cells.toList = [y] ∧ CR φ H F w c y ∧ Flat y) := by
          generalize evS G T x = X at *
          cases X with
          | un => simp [mkRow] at hb
          | c c =>
            obtain ⟨h1, h2⟩ := hr.cc
            exact .inr (.inr ⟨c, ρ a, rfl, by have : (ρ a).cells = #[ρ a] := by { generalize ρ a = V at *; cases V <;> first | rfl | (cases h2) }
                                              rw [this], h1, h2⟩)
          | agg cs => obtain ⟨xs, hx, h1⟩ := hr.aggr; rw [hx]; exact .inl ⟨cs, rfl, h1⟩
          | mg cs => obtain ⟨xs, hx, h1⟩ := hr.mix; rw [hx]; exact .inr (.inl ⟨cs, rfl, h1⟩)
          | tup vs => simp [mkRow] at hb
        obtain ⟨E, S, A⟩ := snd_row hS hG hb hcase
        exact Snd.val (by simp [Instr.box, newVar, newRow]) E S A
      · cases h
    · cases hc
  case build t ps =>
    have hc' := hc
    unfold compBuild at hc'
    have hso : ∃ z l, so = .build z l := by
      split at hc' <;> (try cases hc') <;> (split at hc' <;> (try cases hc')) <;> (split at hc' <;> (try cases hc')) <;> exact ⟨_, _, rfl⟩
    obtain ⟨z, l, rfl⟩ := hso
    simp only [opS] at h
    split at h
    · rename_i b cs hf
      simp only [Option.some.injEq] at h
      subst h
      obtain ⟨xv, h1, h2⟩ := build_run hρ hc hf hp
      exact Snd.same hS h1 h2
    · cases h
  case buildSlice t n ps =>
    split at hc
    · rename_i e ht
      split at hc
      · rename_i i z l hi hz hl
        split at hc
        · rename_i hd
          cases hc
          simp only [decide_eq_true_eq] at hd
          simp only [opS] at h
          split at h
          · rename_i b es H' hlit
            simp only [Option.some.injEq] at h
            subst h
            obtain ⟨xv, w', F', h1, E, S, A⟩ := lit_run hS hρ ht hi hz hl hd hlit hp
            exact Snd.val h1 E S A
          · cases h
        · cases hc
      · cases hc
    · cases hc
  case load t a =>
    split at hc
    · rename_i agg n x hs hx
      cases hc
      obtain ⟨hh, xv, h1, h2⟩ := loadS_run hs hS (hρ _ _ hx) h hp
      rw [hh]
      exact Snd.same hS h1 h2
    · cases hc
  case store t a v =>
    split at hc
    · rename_i agg n x y hs hx hy
      cases hc
      obtain ⟨hv, w', h1, E, S⟩ := storeS_run hs hS (hρ _ _ hx) (hρ _ _ hy) h hp
      rw [hv]
      exact ⟨.skip, undef, w', φ, F, by simp [execOp, h1], .inr ⟨rfl, rfl⟩, E, S, .tup .nil⟩
    · cases hc
  case nilCheck a =>
    split at hc
    · rename_i x hx
      cases hc
      have hr := hρ _ _ hx
      simp only [opS] at h
      split at h <;> simp only [ret, Option.some.injEq, reduceCtorEq] at h <;> subst h
      · rename_i id o heq
        rw [heq] at hr
        obtain ⟨_, r, _, _, _, hv⟩ := hr.cc.1
        exact Snd.keep hS (by simp [execOp, hv]) (hv ▸ hr)
      · rename_i cs heq
        rw [heq] at hr
        obtain ⟨_, _, hv, _⟩ := hr.cc.1
        exact Snd.keep hS (by simp [execOp, hv]) (hv ▸ hr)
      · rename_i id n i o heq
        rw [heq] at hr
        obtain ⟨_, _, _, _, _, _, _, hv, _⟩ := hr.cc.1
        exact Snd.keep hS (by simp [execOp, hv]) (hv ▸ hr)
      · rename_i g cs heq
        rw [heq] at hr
        obtain ⟨_, hv, _⟩ := hr.cc.1
        exact Snd.keep hS (by simp [execOp, hv]) (hv ▸ hr)
    · cases hc
  case binOp op t a b yt =>
    split at hc
    · rename_i x y hx hy
      rcases compBin_cases hc with rfl | hop | rfl
      · obtain ⟨h1, h2⟩ := resOf_spec h
        obtain ⟨g1, xv, g2, g3⟩ := shS_run (P := P) (t := t) (hρ _ _ hx) (hρ _ _ hy) h1 hp
        rw [h2]
        exact snd_bin hS g1 g2 g3
      · obtain ⟨hh, xv, h1, h2⟩ := eqS_run op hop hc (hρ _ _ hx) (hρ _ _ hy) h hp
        rw [hh]
        exact Snd.same hS h1 h2
      · obtain ⟨h1, h2⟩ := resOf_spec h
        obtain ⟨g1, xv, g2, g3⟩ := binS_run (P := P) (t := t) (hρ _ _ hx) (hρ _ _ hy) h1 hp
        rw [h2]
        exact snd_bin hS g1 g2 g3
    · cases hc
  case unOp op t a =>
    split at hc
    · rename_i x hx
      cases hc
      have hr := hρ _ _ hx
      simp only [opS] at h
      split at h
      · rename_i v hv
        simp only [ret, Option.some.injEq] at h
        subst h
        unfold unS at hv
        split at hv <;> simp only [Option.some.injEq, reduceCtorEq] at hv <;> subst hv <;> rename_i heq
        · rw [heq] at hr
          have he := hr.bool
          exact Snd.same hS (xv := .bool _) (by simp only [he, Op.unary]; rfl) (AR.ofBool _)
        · rw [heq] at hr
          have he := hr.int
          exact Snd.same hS (xv := .int _ _) (by simp only [he, Op.unary, Op.intArith]; rfl) (AR.ofInt _ _)
        · rw [heq] at hr
          have he := hr.int
          exact Snd.same hS (xv := .int _ _) (by simp only [he, Op.unary, Op.intBits]; rfl) (AR.ofInt _ _)
      · cases h
    · cases hc
  case convert s d a =>
    split at hc
    · rename_i x hx
      have hr := hρ _ _ hx
      unfold compConv at hc
      split at hc
      · rename_i k1 k hs hd
        cases hc
        simp only [opS] at h
        split at h
        · rename_i k2 n heq
          simp only [ret, Option.some.injEq] at h
          subst h
          rw [heq] at hr
          exact Snd.same hS (xv := .int k (k.wrap n)) (by simp [hr.int, convert, run_underlying hs, run_underlying hd, Conv.intToInt]) (AR.ofInt _ _)
        · cases h
      · rename_i hs hd
        cases hc
        simp only [opS] at h
        split at h
        · rename_i l heq
          simp only [ret, Option.some.injEq] at h
          subst h
          rw [heq] at hr
          obtain ⟨t, ht, rfl⟩ := hr.str
          exact Snd.same hS (xv := .string t) (by simp [ht, convert, run_underlying hs, run_underlying hd]) (.ofStr t rfl)
        · cases h
      · rename_i e hs hd
        split at hc
        · rename_i he
          split at hc
          · rename_i i hi
            split at hc
            · cases hc
              simp only [opS] at h
              split at h
              · rename_i l heq
                simp only [ret, Option.some.injEq] at h
                subst h
                rw [heq] at hr
                obtain ⟨t, ht, rfl⟩ := hr.str
                obtain ⟨xv, w', F', h1, E, S, A⟩ := cBytes_run hS hs hd he t
                exact Snd.val (by rw [ht]; exact h1) E S A
              · cases h
            · cases hc
          · cases hc
        · cases hc
      · rename_i e hs hd
        split at hc
        · rename_i he
          cases hc
          simp only [opS] at h
          split at h
          · rename_i c heq
            split at h
            · rename_i b l hb
              simp only [Option.some.injEq] at h
              subst h
              rw [heq] at hr
              obtain ⟨xv, h1, h2⟩ := cString_run hS hs he hd hr.cc.1 hb hp
              exact Snd.same hS h1 h2
            · cases h
          · cases h
        · cases hc
      · cases hc
    · cases hc
  case makeFunc fn first caps =>
    cases fn <;> simp only [reduceCtorEq] at hc
    rename_i g
    split at hc
    · rename_i l hf hl
      cases hc
      simp only [opS] at h
      split at h
      · rename_i ids hids
        simp only [ret, Option.some.injEq] at h
        subst h
        have hr := capsA_rel (compAs_rel hρ hl) hids
        have hf' : first = #[] := by
          have := hf; exact Array.ext' (by simpa using this)
        have hcm : caps.map ρ = (caps.toList.map ρ).toArray := by
          apply Array.ext'
          simp
        refine Snd.same hS (xv := .func (.func g) #[] (caps.map ρ)) (by simp [Instr.makeFunc, hf']) (.ofCR ⟨caps.toList.map ρ, by rw [hcm], hr⟩ rfl)
      · cases h
    · cases hc
  case makeSlice t l c =>
    split at hc
    · rename_i e ht
      split at hc
      · rename_i i z x y hi hz hx hy
        split at hc
        · rename_i zs hzs hd
          cases hc
          simp only [decide_eq_true_eq] at hd
          obtain ⟨xv, w', φ', F', h1, E, S, A⟩ := mkSl_run hS ht hi hz hzs hd.1 hd.2 (hρ _ _ hx) (hρ _ _ hy) h hp
          exact Snd.val h1 E S A
        · cases hc
      · cases hc
    · cases hc
  case slice t a lo hi mx =>
    split at hc
    · rename_i x l hh ht hx hl hhi hm
      cases hc
      have hmx : mx = none := by
        unfold compO at hm
        split at hm
        · rfl
        · split at hm <;> cases hm
      subst hmx
      obtain ⟨h0, xv, h1, h2⟩ := slStr_run ht (hρ _ _ hx) (compO_rel hρ hl) (compO_rel hρ hhi) h hp
      rw [h0]
      exact Snd.same hS h1 h2
    · rename_i e x l hh m ht hx hl hhi hm
      split at hc
      · rename_i i hne hi
        cases hc
        obtain ⟨F', xv, h1, E, S, A⟩ := slSl_run hS ht hi (hρ _ _ hx) (compO_rel hρ hl) (compO_rel hρ hhi) (compO_rel hρ hm) (by
          intro h1 h2
          cases m with
          | none => exact h1 rfl
          | some mm =>
            cases hh with
            | none => simp at hne
            | some q => cases h2) h hp
        exact Snd.val h1 E S A
      · cases hc
    · cases hc
  case fieldAddr t a f =>
    split at hc
    · rename_i off ag n x hf hx
      split at hc
      · rename_i hn
        cases hc
        have hr := hρ _ _ hx
        simp only [opS, fieldAddrS] at h
        split at h
        · rename_i c heq
          split at h
          · rename_i c' hc'
            simp only [ret, Option.some.injEq] at h
            subst h
            rw [heq] at hr
            obtain ⟨b, o, hv, hcr⟩ := addC_rel hr.cc.1 hc'
            exact Snd.same hS (by rw [hv]; exact run_fieldAt hf (by simpa using hn) b o) (.ofCR hcr rfl)
          · cases h
        · cases h
      · cases hc
    · cases hc
  case field t a f =>
    split at hc
    · rename_i off ag n x hf hx
      cases hc
      have hr := hρ _ _ hx
      obtain ⟨fs, fd, hu, hfd, rfl, hs⟩ := fieldOf_spec hf
      simp only [opS, fieldS] at h
      split at h
      · rename_i cs heq
        rw [heq] at hr
        obtain ⟨xs, hv, hrel⟩ := hr.aggr
        obtain ⟨h1, h2⟩ := resOf_spec h
        obtain ⟨xv, g1, g2⟩ := run_partV (P := P) (φ := φ) (H := H) hs hrel h1 hp
        rw [h2]
        exact Snd.same hS (by rw [hv]; simp [Instr.field, run_underlying hu, hfd, asAgg, g1]) g2
      · rename_i cs heq
        rw [heq] at hr
        obtain ⟨xs, hv, hrel⟩ := hr.mix
        obtain ⟨h1, h2⟩ := resOf_spec h
        obtain ⟨xv, g1, g2⟩ := run_partVM (P := P) hs hrel h1 hp
        rw [h2]
        exact Snd.same hS (by rw [hv]; simp [Instr.field, run_underlying hu, hfd, asAgg, g1]) g2
      · cases h
    · cases hc
  case indexAddr t a i =>
    split at hc
    · rename_i len e x y hu hx hy
      split at hc
      · rename_i j hj
        cases hc
        have hr := hρ _ _ hx
        have hri := hρ _ _ hy
        simp only [opS, ixArr] at h
        split at h
        · rename_i c k iv heq heqi
          split at h
          · rename_i c' hc'
            simp only [Option.some.injEq] at h
            subst h
            simp only [decide_eq_true_eq] at hp
            rw [heq] at hr
            rw [heqi] at hri
            obtain ⟨b, o, hv, hcr⟩ := addC_rel hr.cc.1 hc'
            exact Snd.same hS (by rw [hv, hri.int]; exact run_indexAt_arr hu hj hp.1 hp.2 b o) (.ofCR hcr rfl)
          · cases h
        · cases h
      · cases hc
    · rename_i e x y hu hx hy
      split at hc
      · rename_i j hj
        split at hc
        · cases hc
          obtain ⟨hh, xv, h1, h2⟩ := ixSl_run hS hu hj (hρ _ _ hx) (hρ _ _ hy) h hp
          rw [hh]
          exact Snd.same hS h1 h2
        · cases hc
      · cases hc
    · cases hc
  case index t a i =>
    split at hc
    · rename_i len e x y hu hx hy
      split at hc
      · rename_i ag n hs
        cases hc
        have hr := hρ _ _ hx
        have hri := hρ _ _ hy
        simp only [opS, ixAgg] at h
        split at h
        · rename_i cs k iv heq heqi
          split at h
          · rename_i b v hpt
            simp only [Option.some.injEq] at h
            subst h
            simp only [Bool.and_eq_true, decide_eq_true_eq] at hp
            rw [heq] at hr
            rw [heqi] at hri
            obtain ⟨xs, hv, hrel⟩ := hr.aggr
            obtain ⟨xv, g1, g2⟩ := run_partV (P := P) (φ := φ) (H := H) hs hrel hpt hp.1
            exact Snd.same hS (by rw [hv, hri.int]; simp [Instr.index, asIntOf, run_underlying hu, hp.2.1, hp.2.2, run_sizeOf hs, g1]) g2
          · cases h
        · cases h
      · cases hc
    · rename_i x y hu hx hy
      cases hc
      have hr := hρ _ _ hx
      have hri := hρ _ _ hy
      simp only [opS, ixStr] at h
      split at h
      · rename_i s k iv heq heqi
        split at h
        · rename_i b hb
          simp only [Option.some.injEq] at h
          subst h
          simp only [decide_eq_true_eq] at hp
          rw [heq] at hr
          rw [heqi] at hri
          obtain ⟨t, hv, rfl⟩ := hr.str
          have hlt : iv.toNat < t.size := by have := (List.getElem?_eq_some_iff.1 hb).1; rw [Array.length_toList] at this; exact this
          have hget : t[iv.toNat]? = some b := by
            rw [getElem?_pos t iv.toNat hlt]
            have := (List.getElem?_eq_some_iff.1 hb).2
            rw [← this]
            rfl
          exact Snd.same hS (xv := .int .u8 b.toNat) (by rw [hv, hri.int]; simp [Instr.index, asIntOf, run_underlying hu, hp, hget]) (AR.ofInt _ _)
        · cases h
      · cases h
    · cases hc
  case extract a i =>
    split at hc
    · rename_i x hx
      cases hc
      have hr := hρ _ _ hx
      simp only [opS] at h
      split at h
      · rename_i vs heq
        split at h
        · rename_i v hv
          simp only [ret, Option.some.injEq] at h
          subst h
          rw [heq] at hr
          obtain ⟨xs, hxv, hrel⟩ := hr.tupr
          obtain ⟨xv, h1, h2⟩ := hrel.get hv
          exact Snd.same hS (xv := xv) (by rw [hxv]; simp [Instr.extract, h1]) (.one h2)
        · cases h
      · cases h
    · cases hc
  case call c =>
    obtain ⟨callee, args, argTypes⟩ := c
    cases callee <;> simp only [compOp, reduceCtorEq] at hc
    case value f =>
      split at hc
      · cases hc
        simp [opS] at h
      · cases hc
    case builtin b =>
      have two : ∀ {α : Type} {l : Array α} {x y : α}, l.toList = [x, y] → l = #[x, y] := fun h => Array.ext' (by simpa using h)
      have one : ∀ {α : Type} {l : Array α} {x : α}, l.toList = [x] → l = #[x] := fun h => Array.ext' (by simpa using h)
      unfold compCall at hc
      split at hc
      · -- append
        rename_i t u rest a c hts hargs
        have hargs := two hargs
        subst hargs
        have happ : ∀ (ty : TypeId) (x y : Value), Builtin.append_ argTypes ty #[x, y] = Builtin.append_ #[t, u] ty #[x, y] := by
          intro ty x y
          have e0 : argTypes[0]? = some t := by rw [← Array.getElem?_toList, hts]; rfl
          have e1 : argTypes[1]? = some u := by rw [← Array.getElem?_toList, hts]; rfl
          simp only [Builtin.append_, e0, e1]
          rfl
        split at hc
        · rename_i e d x y ht hu hx hy
          split at hc
          · rename_i i z hi hz
            split at hc
            · rename_i hd
              cases hc
              simp only [decide_eq_true_eq] at hd
              simp only [opS] at h
              obtain ⟨xv, w', φ', F', h1, E, S, A⟩ := appS_run (ty := type) hS ht (u := u) (str := false) ⟨d, hu⟩ hi hz hd.1 hd.2 (hρ _ _ hx) (hρ _ _ hy) h hp
              refine ⟨_, xv, w', φ', F', ?_, .inl rfl, E, S, A⟩
              simp [execOp, resolve, invoke, builtin, happ, h1]
            · cases hc
          · cases hc
        · rename_i e x y ht hu hx hy
          split at hc
          · rename_i i z hi hz
            split at hc
            · rename_i hd
              cases hc
              simp only [decide_eq_true_eq] at hd
              simp only [opS] at h
              obtain ⟨xv, w', φ', F', h1, E, S, A⟩ := appS_run (ty := type) hS ht (u := u) (str := true) ⟨hu, hd.1⟩ hi hz (by omega) hd.2 (hρ _ _ hx) (hρ _ _ hy) h hp
              refine ⟨_, xv, w', φ', F', ?_, .inl rfl, E, S, A⟩
              simp [execOp, resolve, invoke, builtin, happ, h1]
            · cases hc
          · cases hc
        · cases hc
      · -- len
        rename_i t rest a hts hargs
        have hargs := one hargs
        subst hargs
        have hlen : ∀ (ty : TypeId) (x : Value), Builtin.len_ argTypes ty #[x] = Builtin.len_ #[t] ty #[x] := by
          intro ty x
          have e0 : argTypes[0]? = some t := by rw [← Array.getElem?_toList, hts]; rfl
          simp only [Builtin.len_, e0]
          rfl
        split at hc
        · rename_i e x hu hx
          cases hc
          simp only [opS] at h
          obtain ⟨hh, xv, h1, h2⟩ := lenS_run (ty := type) hS (str := false) ⟨e, hu⟩ (hρ _ _ hx) h hp
          rw [hh]
          exact Snd.keep hS (by simp [execOp, resolve, invoke, builtin, hlen, h1]) h2
        · rename_i x hu hx
          cases hc
          simp only [opS] at h
          obtain ⟨hh, xv, h1, h2⟩ := lenS_run (ty := type) hS (str := true) hu (hρ _ _ hx) h hp
          rw [hh]
          exact Snd.keep hS (by simp [execOp, resolve, invoke, builtin, hlen, h1]) h2
        · rename_i n e x hu hx
          cases hc
          simp only [opS, ret, Option.some.injEq] at h
          subst h
          have h1 : (Builtin.len_ argTypes type #[ρ a]).run P w = .ok (.int .i64 n) w := by
            rw [hlen]
            simp [Builtin.len_, run_underlying hu, goInt]
          exact Snd.keep (xv := .int .i64 n) hS (by simp [execOp, resolve, invoke, builtin, h1]) (AR.ofInt _ _)
        · cases hc
      · -- max
        rename_i ts a c hargs
        have hargs := two hargs
        subst hargs
        split at hc
        · rename_i x y hx hy
          cases hc
          simp only [opS] at h
          split at h
          · rename_i v hv
            simp only [ret, Option.some.injEq] at h
            subst h
            obtain ⟨xv, h1, h2⟩ := max_run (P := P) (ts := argTypes) (ty := type) (hρ _ _ hx) (hρ _ _ hy) hv
            exact Snd.keep hS (by simp [execOp, resolve, invoke, builtin, h1]) h2
          · cases h
        · cases hc
      · -- min
        rename_i ts a c hargs
        have hargs := two hargs
        subst hargs
        split at hc
        · rename_i x y hx hy
          cases hc
          simp only [opS] at h
          split at h
          · rename_i v hv
            simp only [ret, Option.some.injEq] at h
            subst h
            obtain ⟨xv, h1, h2⟩ := min_run (P := P) (ts := argTypes) (ty := type) (hρ _ _ hx) (hρ _ _ hy) hv
            exact Snd.keep hS (by simp [execOp, resolve, invoke, builtin, h1]) h2
          · cases h
        · cases hc
      · cases hc
end
end Go.Ab
