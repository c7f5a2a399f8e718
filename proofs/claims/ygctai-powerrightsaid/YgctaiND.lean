/-
  ntt: the passes, plain; level, Below.
-/
import Derived.Test.YgctaiNC
import Derived.Test.YgctaiBr
namespace Go.Proofs.Ygctai
open Go.RowKit
set_option linter.unusedVariables false

/-- After t passes over 2^(m + t) points. -/
def InvM (w : Nat) (x : Nat → Nat) (m t : Nat) (X : Nat → Nat) : Prop := ∀ s j, s < 2 ^ m → j < 2 ^ t → Eqm (X (s * 2 ^ t + j)) (DM w x (2 ^ t) (2 ^ m) (br m s) j)
theorem invm_start {w : Nat} {x X : Nat → Nat} {k : Nat} (h : ∀ q, q < 2 ^ k → X q = x (br k q)) : InvM w x k 0 X := fun s j hs hj => by
  obtain rfl : j = 0 := by simpa using hj
  rw [Nat.pow_zero, Nat.mul_one, Nat.add_zero, h s hs]
  simp [DM, nsum]; exact Eqm.refl _
/-- One pass. -/
theorem invm_step {w k m t : Nat} (hk : k = m + 1 + t) (hw : Rtm w k) {x X Y : Nat → Nat} (hI : InvM w x (m + 1) t X)
    (hY : ∀ s j, s < 2 ^ m → j < 2 ^ t → ∃ v, Eqm v (w ^ (2 ^ m * j) * X (s * 2 ^ (t + 1) + j + 2 ^ t)) ∧ Eqm (Y (s * 2 ^ (t + 1) + j)) (X (s * 2 ^ (t + 1) + j) + v) ∧ Eqm (Y (s * 2 ^ (t + 1) + j + 2 ^ t) + v) (X (s * 2 ^ (t + 1) + j))) :
    InvM w x m (t + 1) Y := by
  have hc : 2 * 2 ^ t = 2 ^ (t + 1) := by rw [Nat.pow_succ]; omega
  have hh : 2 * 2 ^ m = 2 ^ (m + 1) := by rw [Nat.pow_succ]; omega
  have h1 : Eqm (w ^ (2 * 2 ^ m * 2 ^ t)) 1 := by rw [hh, ← Nat.pow_add, ← hk]; exact rtm_one hw
  have h2 : Eqm (w ^ (2 ^ m * 2 ^ t) + 1) 0 := by
    rw [← Nat.pow_add]
    rw [show k = (m + t) + 1 by omega] at hw
    exact hw
  intro s j hs hj
  obtain ⟨j0, b, hj0, hb, rfl⟩ : ∃ j0 b, j0 < 2 ^ t ∧ (b = 0 ∨ b = 1) ∧ j = j0 + b * 2 ^ t := by
    rcases Nat.lt_or_ge j (2 ^ t) with h | h
    · exact ⟨j, 0, h, .inl rfl, by omega⟩
    · exact ⟨j - 2 ^ t, 1, by omega, .inr rfl, by omega⟩
  obtain ⟨v, hv, hlo, hhi⟩ := hY s j0 hs hj0
  have a1 := hI (2 * s) j0 (by omega) hj0
  have a2 := hI (2 * s + 1) j0 (by omega) hj0
  rw [br_even, ← hh, show 2 * s * 2 ^ t + j0 = s * 2 ^ (t + 1) + j0 by rw [← hc, Nat.mul_right_comm, Nat.mul_comm]] at a1
  rw [br_odd, ← hh, show (2 * s + 1) * 2 ^ t + j0 = s * 2 ^ (t + 1) + j0 + 2 ^ t by rw [← hc, Nat.add_mul, Nat.one_mul, Nat.mul_assoc, Nat.mul_left_comm]; omega] at a2
  have hv2 := hv.trans ((Eqm.refl (w ^ (2 ^ m * j0))).mul a2)
  rw [← hc]
  rcases hb with rfl | rfl
  · rw [Nat.zero_mul, Nat.add_zero, hc]
    rw [← hc] at hlo ⊢
    exact hlo.trans (bm_low w x (2 ^ t) (2 ^ m) (br m s) j0 (by rw [hc]; exact a1) hv2)
  · rw [Nat.one_mul, hc, ← Nat.add_assoc]
    have := bm_high x (2 ^ t) (2 ^ m) (br m s) j0 h1 h2 a1 hv2 hhi
    rw [hc] at this
    exact this
/-- After all passes. -/
theorem invm_end {w : Nat} {x X : Nat → Nat} {k : Nat} (h : InvM w x 0 k X) (j : Nat) (hj : j < 2 ^ k) : Eqm (X j) (FM w x (2 ^ k) j) := by
  have := h 0 j (by decide) hj
  rw [Nat.zero_mul, Nat.zero_add, Nat.pow_zero, show br 0 0 = 0 from rfl, fm_dm] at this
  exact this
end Go.Proofs.Ygctai
