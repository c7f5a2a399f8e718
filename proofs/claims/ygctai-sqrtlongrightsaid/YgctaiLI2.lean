/-
  nlong.rootOf.
-/
import Derived.Test.YgctaiLC2
namespace Go.Proofs.Ygctai
open Go.RowKit
set_option linter.unusedVariables false

/-- Bits from i on of a root of v. -/
structure Rb (v s i : Nat) : Prop where
  le : s * s ≤ v
  lt : v < (s + 2 ^ i) * (s + 2 ^ i)
  mul : ∃ m, s = m * 2 ^ i
theorem Rb.start {v : Nat} (hv : v < 281474976710656) : Rb v 0 24 := by
  have h : (2 : Nat) ^ 24 = 16777216 := by decide
  refine ⟨Nat.zero_le _, ?_, 0, by simp⟩
  rw [h]; omega
theorem Rb.yes {v s i : Nat} (h : Rb v s (i + 1)) (ht : (s + 2 ^ i) * (s + 2 ^ i) ≤ v) : Rb v (s + 2 ^ i) i := by
  refine ⟨ht, ?_, ?_⟩
  · have := h.lt
    rw [Nat.pow_succ] at this
    rw [show s + 2 ^ i + 2 ^ i = s + 2 ^ i * 2 by omega]; exact this
  · obtain ⟨m, rfl⟩ := h.mul
    exact ⟨m * 2 + 1, by rw [Nat.add_mul, Nat.pow_succ, Nat.one_mul, Nat.mul_comm (2 ^ i) 2, Nat.mul_assoc]⟩
theorem Rb.no {v s i : Nat} (h : Rb v s (i + 1)) (ht : v < (s + 2 ^ i) * (s + 2 ^ i)) : Rb v s i := by
  obtain ⟨m, hm⟩ := h.mul
  exact ⟨h.le, ht, m * 2, by rw [hm, Nat.pow_succ, Nat.mul_comm (2 ^ i) 2, Nat.mul_assoc]⟩
theorem Rb.end {v s : Nat} (h : Rb v s 0) : s * s ≤ v ∧ v - s * s ≤ 2 * s := by
  have h1 := h.le
  have h2 := h.lt
  rw [Nat.pow_zero, Nat.add_mul, Nat.mul_add, Nat.one_mul, Nat.mul_one] at h2
  exact ⟨h1, by omega⟩
theorem or_bit {m i : Nat} : (m * 2 ^ (i + 1)) ||| 2 ^ i = m * 2 ^ (i + 1) + 2 ^ i := by
  have h : 2 ^ i < 2 ^ (i + 1) := Nat.pow_lt_pow_right (by decide) (by omega)
  have := Nat.two_pow_add_eq_or_of_lt h m
  rw [Nat.mul_comm] at this
  rw [← this]

set_option maxRecDepth 100000 in
set_option maxHeartbeats 400000 in
theorem rootOf_any (v : Nat) (w : World) (hv : v < 281474976710656) :
    Calls Taig.prog 76 #[.int .u64 v] w fun e w' => ∃ s : Nat, e = .returned (.int .u64 s) ∧ s * s ≤ v ∧ v - s * s ≤ 2 * s ∧ w = w' := by
  have H0 := hide (Rb.start hv)
  go_enter Taig.func76, Taig.ntmps76
  go_wp2
  go_loopg [3, 4] 24 (fun gi sv iv wr => ∃ (i s : Nat), i = gi ∧ i ≤ 24 ∧ iv = .int .i64 ((i : Int) - 1) ∧ sv = .int .u64 s ∧ Hid (Rb v s i) ∧ w = wr)
  case atStart => exact ⟨24, 0, rfl, by omega, rfl, rfl, H0, rfl⟩
  case round =>
    clear H0
    obtain ⟨i, s, rfl, hi, rfl, rfl, hR, rfl⟩ := hrel
    by_cases h0 : 0 < i
    · obtain ⟨j, rfl⟩ : ∃ j, i = j + 1 := ⟨i - 1, by omega⟩
      have hI : ((j + 1 : Nat) : Int) - 1 = (j : Int) := by omega
      rw [hI]
      obtain ⟨P, hP⟩ : ∃ P, Hid (2 ^ j = P) := ⟨2 ^ j, hide rfl⟩
      have hs24 : s < 16777216 := by
        rcases Nat.lt_or_ge s 16777216 with h | h
        · exact h
        · have := Nat.mul_le_mul h h; have := (unhide hR).le; omega
      have hP24 : P ≤ 8388608 := by
        rw [← unhide hP]
        exact Nat.le_trans (Nat.pow_le_pow_right (by decide) (show j ≤ 23 by omega)) (by decide)
      have e1 : IntKind.u64.wrap (2 ^ j) = (P : Int) := by
        have : (2 : Int) ^ j = (P : Int) := by rw [← unhide hP]; simp
        rw [this, IntKind.wrap_u64]; omega
      have e2 : bits .or .u64 (s : Int) (P : Int) = ((s + P : Nat) : Int) := by
        rw [u64_or_nat s P (by omega) (by omega)]
        obtain ⟨m, hm⟩ := (unhide hR).mul
        rw [hm, ← unhide hP, or_bit]
      obtain ⟨t, ht⟩ : ∃ t, Hid (s + P = t) := ⟨_, rfl⟩
      rw [unhide ht] at e2
      have ht25 : t < 33554432 := by rw [← unhide ht]; omega
      obtain ⟨z, hz⟩ : ∃ z, Hid (t * t = z) := ⟨_, rfl⟩
      have hz64 : z < 18446744073709551616 := by rw [← unhide hz]; have := Nat.mul_le_mul (show t ≤ 33554431 by omega) (show t ≤ 33554431 by omega); omega
      have e3 : IntKind.u64.wrap ((t : Int) * (t : Int)) = (z : Int) := by
        have : (t : Int) * (t : Int) = (z : Int) := by rw [← unhide hz]; simp
        rw [this, IntKind.wrap_u64]; omega
      clear hI
      by_cases hle : z ≤ v
      · have hR2 : Hid (Rb v t j) := by
          have := (unhide hR).yes (by rw [unhide hP, unhide ht, unhide hz]; exact hle)
          rw [unhide hP, unhide ht] at this
          exact this
        go_wp2
        go_roundg j
        case measure => omega
        case rel => exact ⟨j, t, rfl, by omega, by go_num, rfl, hR2, rfl⟩
      · have hR2 : Hid (Rb v s j) := (unhide hR).no (by rw [unhide hP, unhide ht, unhide hz]; omega)
        go_wp2
        go_roundg j
        case measure => omega
        case rel => exact ⟨j, s, rfl, by omega, by go_num, rfl, hR2, rfl⟩
    · obtain rfl : i = 0 := by omega
      have hE := hide (unhide hR).end
      go_wp2
      go_ret
      exact ⟨s, rfl, (unhide hE).1, (unhide hE).2, rfl⟩
end Go.Proofs.Ygctai
