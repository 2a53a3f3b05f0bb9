/- Part of a proof; no condition. -/
import Derived.Test.YtjdkjlmcnpjohaaDoorB0
import Derived.Test.YtjdkjlmcnpjohaaDoorLibA0
import Derived.RangeFuncBound
import Derived.RangeFuncCalls
import Derived.RangeFuncLeaves
import Derived.Shelf.Abstract
import Derived.Shelf.RegionOpen
import Derived.WalkKit
import Derived.OwnWalkIn
import Derived.TacticsInMore
import Derived.LoopNIn
import Derived.LoopIn
set_option linter.unusedSimpArgs false
set_option linter.unusedVariables false
namespace Go.Ab.S
open Go Go.Ab Go.Proofs Go.RowKit Go.Shelf
attribute [local go_sem] Oper.semAt_some
attribute [local irreducible] SemS
set_option maxRecDepth 100000
theorem ctz_ok (k m : Nat) (h : 2 ^ k * (2 * m + 1) < 65536) : EvP PR G f_math_bits_TrailingZeros16 [uv ((2 ^ k * (2 * m + 1) : Nat) : Int)] (iv k) := by
  have hpos : 0 < 2 ^ k * (2 * m + 1) := Nat.mul_pos (Nat.two_pow_pos k) (by omega)
  have hn := and_neg k m h
  have hk : k < 16 := by
    apply Nat.lt_of_not_le
    intro hk
    have : 2 ^ 16 ≤ 2 ^ k := Nat.pow_le_pow_right (by omega) hk
    have : 2 ^ k * 1 ≤ 2 ^ k * (2 * m + 1) := Nat.mul_le_mul_left _ (by omega)
    omega
  revert hn hpos h
  generalize 2 ^ k * (2 * m + 1) = t
  intro h hpos hn
  refine EvP.of_wpf true hm c_math_bits_TrailingZeros16 rfl ?_
  refine wpf_seq1 ?_
  conv => whnf
  refine wpfS_seq1 ?_
  conv => whnf
  refine brP_f (by simp; omega) ?_
  conv => whnf
  refine wpfS_seq1 ?_
  refine wpf_cut 4 ?_
  conv => whnf
  rw [neg16 hpos h, and16 h (by omega), hn]
  clear h hpos hn
  have : k = 0 ∨ k = 1 ∨ k = 2 ∨ k = 3 ∨ k = 4 ∨ k = 5 ∨ k = 6 ∨ k = 7 ∨ k = 8 ∨ k = 9 ∨ k = 10 ∨ k = 11 ∨ k = 12 ∨ k = 13 ∨ k = 14 ∨ k = 15 := by omega
  rcases this with rfl | rfl | rfl | rfl | rfl | rfl | rfl | rfl | rfl | rfl | rfl | rfl | rfl | rfl | rfl | rfl
  all_goals
    refine wpfS_go ?_
    conv => whnf
    refine wpfS_go ?_
    conv => whnf
    rfl

/-- A function of values, called in a world of which the tables are known. -/
theorem EvP.calls {P : Program} {G : Gl} {g : FuncId} {args : List AV} {v : AV} (h : EvP P G g args v) {F : Cl} {W : World} (hG : ∀ g cs, G g = some cs → At F W g 0 cs) (hF : ∀ b o, F b o → b < W.heap.size) {xs : List Value} {x : Value} (hx : F2 (AR (fun _ => none) ⟨[], []⟩ F W) args xs)
    (hv : ∀ {F' W' y}, AR (fun _ => none) ⟨[], []⟩ F' W' v y → y = x) : Calls P g xs.toArray W fun e W' => e = .returned x ∧ W.grownBy W' none := by
  obtain ⟨-, hp, h⟩ := h
  have hS : SRel G (fun _ => none) ⟨[], []⟩ F W := ⟨fun i j r h => (by cases h), fun i r h => (by cases h), fun i r h => (by cases h), fun id b h => (by cases id <;> simp [Hp.get] at h), hG, hF⟩
  refine (h.2 _ F W xs hS hx).mono ?_
  rintro e W' ⟨r, H', φ', F', y, rfl, rfl, E, S, A⟩
  refine ⟨by rw [hv (pureV_rel hp A _ _)], E.os, E.tape, E.output, E.size, fun k hk _ => E.keep k hk fun _ h => by cases h⟩

theorem keepsF {F : Cl} {w W : World} (h : ∀ b o, F b o → W.cell? ⟨b, o, none⟩ = w.cell? ⟨b, o, none⟩) : Keeps F F w W := ⟨fun _ _ h => h, h⟩

set_option maxHeartbeats 400000 in
theorem each1 (s : Nat) (hs : s < 65536) (F : Cl) (w : World) (r : Nat) (hG : ∀ g cs, G g = some cs → At F w g 0 cs) (hF : ∀ b o, F b o → b < w.heap.size) (hcell : w.cell? ⟨r, 0, none⟩ = some (.int .u16 s)) : SeqN PR F f_tagset_Each_1 #[.pointer (some ⟨r, 0, none⟩)] (bitsL s) w := by
  intro l J Jx W hB hJ hJx hY h0
  refine (callsIn_wide (n := 6)).1 ?_
  have hcW : W.cell? ⟨r, 0, none⟩ = some (.int .u16 s) := hB.cell (p := ⟨r, 0, none⟩) (World.block_lt_of_cell? w _ hcell) |>.trans hcell
  have hFW : ∀ b o, F b o → W.cell? ⟨b, o, none⟩ = w.cell? ⟨b, o, none⟩ := fun b o f => hB.cell (p := ⟨b, o, none⟩) (hF b o f)
  refine callsIn_of_wp Tryd.func133 rfl trivial ?_ rfl
  simp only [Tryd.ntmps133, List.size_toArray, List.length_cons, List.length_nil, Nat.reduceAdd, Nat.reduceSub, Array.replicate_succ, Array.replicate_zero, List.push_toArray, List.append_toArray, List.nil_append, List.cons_append]
  gi_wp2
  gi_loopw [3] (fun p wr => ∃ (t : Nat) (pre : List Int), p = .int .u16 t ∧ t < 65536 ∧ bitsL s = pre ++ bitsL t ∧ J pre wr ∧ w.heap.size ≤ wr.heap.size ∧ ∀ b o, F b o → wr.cell? ⟨b, o, none⟩ = w.cell? ⟨b, o, none⟩) (fun p _ => (intOf p).toNat)
  case atStart => exact ⟨s, [], rfl, hs, rfl, h0, hB.size, hFW⟩
  case round =>
    obtain ⟨t, pre, rfl, ht, hx, hJs, hsz, hfr⟩ := hrel
    by_cases ht0 : t = 0
    · subst ht0
      gi_wp2
      go_end0
      exact ⟨⟨_, rfl⟩, .inl (by rw [hx, bitsL_zero, List.append_nil]; exact hJs)⟩
    · obtain ⟨k, m, hkm'⟩ := odd_part t (by omega)
      have hkm := hkm'.symm
      clear hkm'
      have hpos : 0 < t := by omega
      have hx' := hx
      rw [← hkm, bitsL_step k m (hkm.symm ▸ ht)] at hx'
      have hne : (t : Int) ≠ 0 := by omega
      have hbit : Go.bits .and .u16 (t : Int) ((t : Int) - 1) = ((t &&& (t - 1) : Nat) : Int) := by
        rw [show (t : Int) - 1 = ((t - 1 : Nat) : Int) by omega]
        exact and16 ht (by omega)
      have hlt : t &&& (t - 1) < t := by
        rw [← hkm, and_pred]
        exact Nat.mul_lt_mul_of_pos_left (by omega) (Nat.two_pow_pos k)
      have hcall : CallsIn Fence.wide 5 PR 134 #[.int .u16 t] wr fun e W' => e = .returned (.int .i64 k) ∧ wr.grownBy W' none := by
        refine callsIn_wide.2 ?_
        have := (ctz_ok k m (hkm.symm ▸ ht))
        rw [hkm] at this
        exact EvP.calls this (fun g cs h => (hG g cs h).keeps (keepsF hfr)) (fun b o f => Nat.lt_of_lt_of_le (hF b o f) hsz) (xs := [.int .u16 t]) (.cons (.ofCR (.int .u16 t) rfl) .nil) (fun A => A.int)
      gi_wp2_with (refine ⟨trivial, ?_⟩; gi_at_call 134; refine hcall.mono ?_; rintro e W2 ⟨rfl, hg2⟩; obtain ⟨fn, tmps, assign, body, hy, hR⟩ := hY pre k W2 (hJ _ _ _ hJs hg2) (by rw [hx']; exact ⟨bitsL (2 ^ k * (2 * m)), by simp⟩))
      refine hR.mono ?_
      rintro e W3 (⟨rfl, hJ3, hs3, hk3⟩ | ⟨rfl, hJx3⟩)
      · gi_wp2
        go_roundw
        case rel =>
          refine ⟨t &&& (t - 1), pre ++ [(k : Int)], ?_, ?_, ?_, hJ3, ?_, ?_⟩
          · rfl
          · exact Nat.lt_of_le_of_lt Nat.and_le_left ht
          · rw [hx', ← hkm, and_pred]; simp
          · have := hg2.size; omega
          · intro b o f
            rw [hk3 b o f, World.cell?_of_block (hg2.block b (Nat.lt_of_lt_of_le (hF b o f) hsz) (by simp))]
            exact hfr b o f
        case measure =>
          simp only [intOf, Int.toNat_natCast]; exact hlt
      · gi_wp2
        refine bodyPost_ret (results_none rfl _ _ _) rfl ?_
        exact ⟨⟨_, rfl⟩, .inr ⟨_, hJx3⟩⟩
end Go.Ab.S
