/-
  mkara.MulKaratsuba.
-/
import Derived.Test.YgctaiPE
namespace Go.Proofs.Ygctai
open Go.RowKit
set_option linter.unusedVariables false
attribute [local go_sem ↓] Go.wp_at_zero Go.wp_at_succ

/-! ### plain -/
theorem kara {A0 A1 B0 B1 K : Nat} : (A0 + K * A1) * (B0 + K * B1) = A0 * B0 + K * (A0 * B1 + A1 * B0) + K * K * (A1 * B1) := by
  rw [Nat.add_mul, Nat.mul_add, Nat.mul_add, Nat.mul_add]
  have e1 : A0 * (K * B1) = K * (A0 * B1) := by ac_rfl
  have e2 : K * A1 * B0 = K * (A1 * B0) := by ac_rfl
  have e3 : K * A1 * (K * B1) = K * K * (A1 * B1) := by ac_rfl
  omega
theorem kara1 {A0 A1 B0 B1 : Nat} : (A0 + A1) * (B0 + B1) = A0 * B0 + (A0 * B1 + A1 * B0) + A1 * B1 := by
  rw [Nat.add_mul, Nat.mul_add, Nat.mul_add]; omega
/-- z0 and z2 laid. -/
def two (z0 z2 h : Nat) : Nat → Nat := fun i => if i < 2 * h then dig z0 i else dig z2 (i - 2 * h)
theorem two_byt (z0 z2 h : Nat) : Byt (two z0 z2 h) := fun i => by unfold two; split <;> exact dig_lt _ _
theorem two_val {z0 z2 h N : Nat} (h0 : z0 < 256 ^ (2 * h)) (h2 : dlen z2 ≤ N - 2 * h) (hN : 2 * h ≤ N) : val (two z0 z2 h) N = z0 + 256 ^ (2 * h) * z2 := by
  obtain ⟨d, rfl⟩ : ∃ d, N = 2 * h + d := ⟨N - 2 * h, by omega⟩
  rw [val_split]
  have e1 : val (two z0 z2 h) (2 * h) = z0 := by
    rw [val_congr (2 * h) (g := dig z0) (fun i hi => by unfold two; rw [if_pos hi]), val_dig]; exact Nat.mod_eq_of_lt h0
  have e2 : val (fun i => two z0 z2 h (2 * h + i)) d = z2 := by
    rw [val_congr d (g := dig z2) (fun i hi => by unfold two; rw [if_neg (by omega), Nat.add_sub_cancel_left]), val_dig]
    exact Nat.mod_eq_of_lt (Nat.lt_of_lt_of_le (lt_pow_dlen z2) (pow256_mono (by omega)))
  rw [e1, e2]
/-- The upper part turned. -/
def onto (f g : Nat → Nat) (h : Nat) : Nat → Nat := fun i => if i < h then f i else g (i - h)
theorem onto_byt {f g : Nat → Nat} (hf : Byt f) (hg : Byt g) (h : Nat) : Byt (onto f g h) := fun i => by
  unfold onto; split
  · exact hf i
  · exact hg _
theorem onto_val {f g : Nat → Nat} {h N : Nat} (hN : h ≤ N) : val (onto f g h) N = val f h + 256 ^ h * val g (N - h) := by
  obtain ⟨d, rfl⟩ : ∃ d, N = h + d := ⟨N - h, by omega⟩
  rw [val_split, Nat.add_sub_cancel_left]
  rw [val_congr h (g := f) (fun i hi => by unfold onto; rw [if_pos hi]), val_congr d (g := g) (fun i hi => by unfold onto; rw [if_neg (by omega), Nat.add_sub_cancel_left])]
theorem onto_row {w w' : World} {b h N : Nat} {f g : Nat → Nat} (hN : h ≤ N) (hr : Row w b 0 N (oct f)) (h1 : Row w' b h (N - h) (oct g)) (hw : Wr b h (h + (N - h)) w w') : Row w' b 0 N (oct (onto f g h)) := fun i hi => by
  rw [oct_at]
  unfold onto
  by_cases c : i < h
  · rw [if_pos c, hw.cell _ (by omega)]; exact hr i hi
  · rw [if_neg c]
    have := h1 (i - h) (by omega)
    rw [show h + (i - h) = 0 + i by omega] at this
    exact this
/-- All that the sizes give. -/
theorem kara_facts {A B h la lb : Nat} (hA : la = dlen A) (hB : lb = dlen B) :
    A % 256 ^ h * (B % 256 ^ h) + (A % 256 ^ h * (B / 256 ^ h) + A / 256 ^ h * (B % 256 ^ h)) * 256 ^ h + 256 ^ (2 * h) * (A / 256 ^ h * (B / 256 ^ h)) = A * B ∧ A % 256 ^ h * (B % 256 ^ h) < 256 ^ (2 * h) ∧ A * B < 256 ^ (la + lb) := by
  refine ⟨?_, ?_, ?_⟩
  · have e := kara (A0 := A % 256 ^ h) (A1 := A / 256 ^ h) (B0 := B % 256 ^ h) (B1 := B / 256 ^ h) (K := 256 ^ h)
    rw [Nat.mod_add_div, Nat.mod_add_div] at e
    rw [e, Nat.two_mul, Nat.pow_add, Nat.mul_comm _ (256 ^ h)]
  · rw [Nat.two_mul, Nat.pow_add]
    exact Nat.mul_lt_mul_of_lt_of_lt (Nat.mod_lt _ (pow256_pos h)) (Nat.mod_lt _ (pow256_pos h))
  · rw [hA, hB, Nat.pow_add]
    exact Nat.mul_lt_mul_of_lt_of_lt (lt_pow_dlen A) (lt_pow_dlen B)
end Go.Proofs.Ygctai
