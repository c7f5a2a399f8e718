/-
  mlong: wideLog, sameMemory, MulLong.
-/
import Derived.Test.YgctaiME
import Derived.LaidEqlPtr
namespace Go.Proofs.Ygctai
open Go.RowKit
set_option linter.unusedVariables false
attribute [local go_sem ↓] Go.wp_at_zero Go.wp_at_succ

set_option maxRecDepth 100000 in
set_option maxHeartbeats 400000 in
theorem wideLog_any (la lb : Nat) (w : World) (h1 : la ≤ 8192) (h2 : lb ≤ 8192) (h3 : 0 < lb) :
    Calls Taig.prog 103 #[.int .i64 la, .int .i64 lb] w fun e w' => e = .returned (.int .u8 0) ∧ w = w' := by
  go_enter Taig.func103, Taig.ntmps103
  go_wp2
  go_loopg [5] (15 - 1) (fun gk kv wr => ∃ (k : Nat), gk = 15 - k ∧ 1 ≤ k ∧ k ≤ 15 ∧ kv = .int .u8 k ∧ w = wr)
  case atStart => exact ⟨1, rfl, by omega, by omega, rfl, rfl⟩
  case round =>
    obtain ⟨k, rfl, hk1, hk2, rfl, rfl⟩ := hrel
    have hw := wrap_pow k (by omega)
    obtain ⟨P, hP⟩ : ∃ P, Hid (P = 2 ^ k) := ⟨2 ^ k, hide rfl⟩
    rw [← unhide hP] at hw
    by_cases hlt : P < 2 * (la + lb)
    · have hk3 : k < 15 := by
        rcases Nat.lt_or_ge k 15 with h | h
        · exact h
        · have := Nat.pow_le_pow_right (show 0 < 2 by decide) h
          rw [← unhide hP] at this; omega
      have b1 : decide (wrap64 (2 ^ k) < 2 * ((la : Int) + (lb : Int))) = true := decide_eq_true (by rw [hw]; omega)
      clear hw
      go_wp2
      go_roundg (15 - (k + 1))
      case measure => omega
      case rel => exact ⟨k + 1, rfl, by omega, by omega, by go_num, rfl⟩
    · have b1 : decide (wrap64 (2 ^ k) < 2 * ((la : Int) + (lb : Int))) = false := decide_eq_false (by rw [hw]; omega)
      clear hw
      have hB : la * lb < 10000 * P := by
        have := Nat.mul_le_mul_right lb h1
        omega
      have b2 : decide (IntKind.u64.wrap ((la : Int) * (lb : Int)) < IntKind.u64.wrap (10000 * 2 ^ k)) = true := by
        have z1 : (la : Int) * (lb : Int) = ((la * lb : Nat) : Int) := by simp
        have z2 : (10000 : Int) * 2 ^ k = ((10000 * P : Nat) : Int) := by rw [unhide hP]; simp
        have z3 := Nat.mul_le_mul h1 h2
        have z4 : P ≤ 32768 := by rw [unhide hP]; exact Nat.le_trans (Nat.pow_le_pow_right (by decide) hk2) (by decide)
        refine decide_eq_true ?_
        rw [z1, z2, IntKind.wrap_u64, IntKind.wrap_u64]
        omega
      clear hB
      go_wp2
      go_ret
      exact ⟨rfl, rfl⟩

theorem sameAddr_free {P : Program} {w : World} {a b : Addr} {u v : Value} (hne : a ≠ b) (ha : w.cell? a = some u) (hb : w.cell? b = some v) (hfa : ∀ o, w.frozen? ⟨a.block, o, none⟩ = false) : (sameAddr a b).run P w = .ok false w := by
  have hA : ∃ ca ta fa, w.heap[a.block]? = some (.cells ca ta fa) := by
    unfold World.cell? at ha
    split at ha
    · exact ⟨_, _, _, by assumption⟩
    · exact absurd ha (by simp)
  have hB : ∃ cb tb fb, w.heap[b.block]? = some (.cells cb tb fb) ∧ cb.size ≠ 0 := by
    unfold World.cell? at hb
    split at hb
    · rename_i c t f h
      refine ⟨c, t, f, h, ?_⟩
      split at hb
      · exact absurd hb (by simp)
      · intro hz
        rw [Array.getElem?_eq_none (by omega)] at hb
        exact absurd hb (by simp)
    · exact absurd hb (by simp)
  obtain ⟨ca, ta, fa, hA⟩ := hA
  obtain ⟨cb, tb, fb, hB, hz⟩ := hB
  have hf1 : w.frozen? a = false := by
    have := hfa a.off
    unfold World.frozen? at this ⊢
    exact this
  have hf2 := hfa ca.size
  by_cases hbl : a.block = b.block
  · simp [sameAddr, hbl, hne]
  · simp [sameAddr, hbl, hf1, hf2, hA, hB, noView, viewAt, World.shape?, mayBeOne, stringish, hz]
theorem Taig.info5' : ∃ j, Taig.prog.info? 5 = some j ∧ j.size ≠ 0 := by
  obtain ⟨i, hi, hz, hs, hb⟩ := info_parts Taig.info5
  exact ⟨i, hi, by omega⟩
theorem eqlp_same (w : World) (a : Addr) : (binOp .eql 139 (.pointer (some a)) (.pointer (some a))).run Taig.prog w = .ok (.bool true) w := by
  obtain ⟨j, hj, _⟩ := Taig.info5'
  exact run_eql_ptr_same w a Taig.underlying139 hj
theorem eqlp_other {w : World} {a b : Addr} {u v : Value} (hne : a ≠ b) (ha : w.cell? a = some u) (hb : w.cell? b = some v) (hfa : ∀ o, w.frozen? ⟨a.block, o, none⟩ = false) : (binOp .eql 139 (.pointer (some a)) (.pointer (some b))).run Taig.prog w = .ok (.bool false) w := by
  obtain ⟨j, hj, hsz⟩ := Taig.info5'
  have h : ∀ d : Nat, (Op.equalIn (d + 1) 139 (.pointer (some a)) (.pointer (some b))).run Taig.prog w = .ok false w := fun d => by
    simp [Op.equalIn, run_underlying Taig.underlying139, sizeOf, typeInfo, hj, hsz, sameAddr_free hne ha hb hfa]
  simp only [binOp]
  simp [Op.equal, Op.maxDepth, h 9999]

set_option maxRecDepth 100000 in
set_option maxHeartbeats 400000 in
theorem sameMemory_any (b1 o1 b2 o2 la ca lb cb : Nat) (c1 c2 : Nat → Value) (w : World) (h1 : 0 < la) (h2 : 0 < lb) (h3 : la ≤ 1048576) (h4 : lb ≤ 1048576) (r1 : Row w b1 o1 la c1) (r2 : Row w b2 o2 lb c2) (hf : Free w b1 o1 la) :
    Calls Taig.prog 106 #[.slice (some ⟨b1, o1, none⟩) la ca, .slice (some ⟨b2, o2, none⟩) lb cb] w fun e w' => ∃ r, e = .returned (.bool r) ∧ (r = true → la = lb ∧ b1 = b2 ∧ o1 = o2) ∧ Below w.heap.size w w' := by
  by_cases h : la = lb
  · have e1 : ((la : Int) == (lb : Int)) = true := by rw [beq_iff_eq]; omega
    obtain ⟨r, hr, hr2⟩ : ∃ r, (binOp .eql 139 (.pointer (some ⟨b1, o1, none⟩)) (.pointer (some ⟨b2, o2, none⟩))).run Taig.prog w.drew = .ok (.bool r) w.drew ∧ Hid (r = true → b1 = b2 ∧ o1 = o2) := by
      by_cases e : (⟨b1, o1, none⟩ : Addr) = ⟨b2, o2, none⟩
      · refine ⟨true, ?_, fun _ => ?_⟩
        · rw [← e]; exact eqlp_same _ _
        · injection e with e1 e2; exact ⟨e1, e2⟩
      · refine ⟨false, ?_, fun h => absurd h (by decide)⟩
        have k1 := r1.drew.cell h1
        have k2 := r2.drew.cell h2
        rw [Nat.add_zero] at k1 k2
        exact eqlp_other e k1 k2 (fun o => hf.drew.all h1 o)
    have hle : Hid (la = lb) := h
    go_enter Taig.func106, Taig.ntmps106
    go_wp2
    go_region
    all_goals
      go_wp2
      go_ret
      exact ⟨r, rfl, fun h => ⟨unhide hle, unhide hr2 h⟩, (Below.refl _ w).drew⟩
  · have e1 : ((la : Int) == (lb : Int)) = false := by rw [beq_eq_false_iff_ne]; omega
    go_enter Taig.func106, Taig.ntmps106
    go_wp2
    go_quiet (fail)
    go_wp2
    go_ret
    exact ⟨false, rfl, fun h => absurd h (by decide), belowN (Below.refl _ w) nq⟩
end Go.Proofs.Ygctai
