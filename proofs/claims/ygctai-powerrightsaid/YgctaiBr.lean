/-
  Bits in the other order, plain; bitwise operators on an int. 
-/
import Derived.Test.YgctaiTake
import Derived.Test.YgctaiNet
namespace Go.Proofs.Ygctai
open Go.RowKit
set_option linter.unusedVariables false

theorem br_lt' (m s : Nat) : br m s < 2 ^ m := by
  induction m generalizing s with
  | zero => simp [br]
  | succ m ih =>
    rw [br, Nat.pow_succ]
    have h1 := ih (s / 2)
    rcases Nat.mod_two_eq_zero_or_one s with h | h <;> rw [h] <;> omega

theorem br_top (m t r : Nat) (ht : t < 2) (hr : r < 2 ^ m) : br (m + 1) (t * 2 ^ m + r) = 2 * br m r + t := by
  induction m generalizing r with
  | zero =>
    have : r = 0 := by rw [Nat.pow_zero] at hr; omega
    subst this
    simp [br]; omega
  | succ m ih =>
    have e1 : (t * 2 ^ (m + 1) + r) % 2 = r % 2 := by rw [Nat.pow_succ, ← Nat.mul_assoc]; omega
    have e2 : (t * 2 ^ (m + 1) + r) / 2 = t * 2 ^ m + r / 2 := by rw [Nat.pow_succ, ← Nat.mul_assoc]; omega
    have hr2 : r / 2 < 2 ^ m := by rw [Nat.pow_succ] at hr; omega
    rw [br, e1, e2, ih (r / 2) hr2, br, Nat.mul_add, Nat.pow_succ, ← Nat.mul_assoc, Nat.mul_comm (r % 2 * 2 ^ m) 2]
    omega

theorem br_br (m s : Nat) (hs : s < 2 ^ m) : br m (br m s) = s := by
  induction m generalizing s with
  | zero => rw [Nat.pow_zero] at hs; simp [br]; omega
  | succ m ih =>
    have hs2 : s / 2 < 2 ^ m := by rw [Nat.pow_succ] at hs; omega
    conv => lhs; rw [show br (m + 1) s = s % 2 * 2 ^ m + br m (s / 2) from rfl]
    rw [br_top m _ _ (Nat.mod_lt _ (by decide)) (br_lt' m _), ih _ hs2]
    omega

/-- The permutation half done. -/
def yr {α : Type} (k : Nat) (x : Nat → α) (i : Nat) : Nat → α := fun p => if min p (br k p) < i then x (br k p) else x p
theorem yr_zero {α : Type} (k : Nat) (x : Nat → α) : yr k x 0 = x := by funext p; simp [yr]
theorem yr_end {α : Type} (k : Nat) (x : Nat → α) (p : Nat) (hp : p < 2 ^ k) : yr k x (2 ^ k) p = x (br k p) := by
  unfold yr; rw [if_pos (by omega)]
theorem yr_swap {α : Type} (k : Nat) (x : Nat → α) (i : Nat) (hi : i < 2 ^ k) (hj : i < br k i) (p : Nat) (hp : p < 2 ^ k) :
    upd (upd (yr k x i) i (yr k x i (br k i))) (br k i) (yr k x i i) p = yr k x (i + 1) p := by
  have hb := br_br k i hi
  have hbp := br_br k p hp
  unfold upd yr
  by_cases h1 : p = br k i
  · subst h1
    rw [if_pos rfl, if_neg (by omega), hb, if_pos (by omega)]
  · rw [if_neg h1]
    by_cases h2 : p = i
    · subst h2
      rw [if_pos rfl, hb, if_neg (by omega), if_pos (by omega)]
    · rw [if_neg h2]
      have h3 : br k p ≠ i := fun e => h1 (by rw [← e, hbp])
      by_cases h4 : min p (br k p) < i
      · rw [if_pos h4, if_pos (by omega)]
      · rw [if_neg h4, if_neg (by omega)]
theorem yr_keep {α : Type} (k : Nat) (x : Nat → α) (i : Nat) (hi : i < 2 ^ k) (hj : br k i ≤ i) (p : Nat) (hp : p < 2 ^ k) : yr k x i p = yr k x (i + 1) p := by
  have hb := br_br k i hi
  have hbp := br_br k p hp
  unfold yr
  by_cases h4 : min p (br k p) < i
  · rw [if_pos h4, if_pos (by omega)]
  · rw [if_neg h4]
    by_cases h5 : min p (br k p) < i + 1
    · rw [if_pos h5]
      have h6 : p = i ∨ br k p = i := by omega
      rcases h6 with h6 | h6
      · subst h6
        have : br k p = p := by omega
        rw [this]
      · have e : p = br k i := by rw [← h6, hbp]
        have : p = i := by omega
        rw [h6, this]
    · rw [if_neg h5]

theorem i64_wraps (n : Int) (h0 : 0 ≤ n) (h1 : n < 2 ^ 63) : IntKind.i64.wrap n = n := by rw [IntKind.wrap_i64]; omega
theorem i64_xor_nat (a b : Nat) (ha : a < 2 ^ 63) (hb : b < 2 ^ 63) : bits .xor .i64 (a : Int) (b : Int) = ((a ^^^ b : Nat) : Int) := by
  have ha' : a % 2 ^ 64 = a := Nat.mod_eq_of_lt (by omega)
  have hb' : b % 2 ^ 64 = b := Nat.mod_eq_of_lt (by omega)
  have hx : a ^^^ b < 2 ^ 63 := Nat.xor_lt_two_pow ha hb
  have e : IntKind.i64.bits = 64 := rfl
  simp only [bits, e, BitVec.ofInt_natCast, BitVec.toNat_xor, BitVec.toNat_ofNat, ha', hb']
  exact i64_wraps _ (by omega) (by omega)

theorem bit_or {m r : Nat} (hr : r < 2 ^ m) : 2 ^ m + r = 2 ^ m ||| r := by
  have := Nat.two_pow_add_eq_or_of_lt hr 1
  rwa [Nat.mul_one] at this
/-- A bit tested, cleared, set. -/
theorem and_bit1 {m r : Nat} (hr : r < 2 ^ m) : (2 ^ m + r) &&& 2 ^ m = 2 ^ m := by
  rw [bit_or hr]
  apply Nat.eq_of_testBit_eq
  intro i
  rw [Nat.testBit_and, Nat.testBit_or, Nat.testBit_two_pow]
  by_cases e : m = i
  · subst e; simp
  · simp [e]
theorem and_bit0 {m r : Nat} (hr : r < 2 ^ m) : r &&& 2 ^ m = 0 := by
  apply Nat.eq_of_testBit_eq
  intro i
  rw [Nat.testBit_and, Nat.testBit_two_pow]
  by_cases e : m = i
  · subst e; simp [Nat.testBit_lt_two_pow hr]
  · simp [e]
theorem xor_bit1 {m r : Nat} (hr : r < 2 ^ m) : (2 ^ m + r) ^^^ 2 ^ m = r := by
  rw [bit_or hr]
  apply Nat.eq_of_testBit_eq
  intro i
  rw [Nat.testBit_xor, Nat.testBit_or, Nat.testBit_two_pow]
  by_cases e : m = i
  · subst e; simp [Nat.testBit_lt_two_pow hr]
  · simp [e]
theorem or_bit0 {m r : Nat} (hr : r < 2 ^ m) : r ||| 2 ^ m = 2 ^ m + r := by rw [bit_or hr, Nat.or_comm]

theorem i64_and_bit1 {m r M : Nat} (hM : M = 2 ^ m) (hm : m < 60) (hr : r < M) : bits .and .i64 ((M + r : Nat) : Int) (M : Int) = (M : Int) := by
  subst hM
  have h1 : 2 ^ m < 2 ^ 60 := Nat.pow_lt_pow_right (by decide) hm
  rw [(bits_nat .i64 63 (by decide) i64_wraps _ _ (by omega) (by omega)).1, and_bit1 hr]
theorem i64_and_bit0 {m r M : Nat} (hM : M = 2 ^ m) (hm : m < 60) (hr : r < M) : bits .and .i64 (r : Int) (M : Int) = 0 := by
  subst hM
  have h1 : 2 ^ m < 2 ^ 60 := Nat.pow_lt_pow_right (by decide) hm
  rw [(bits_nat .i64 63 (by decide) i64_wraps _ _ (by omega) (by omega)).1, and_bit0 hr]; rfl
theorem i64_xor_bit1 {m r M : Nat} (hM : M = 2 ^ m) (hm : m < 60) (hr : r < M) : bits .xor .i64 ((M + r : Nat) : Int) (M : Int) = (r : Int) := by
  subst hM
  have h1 : 2 ^ m < 2 ^ 60 := Nat.pow_lt_pow_right (by decide) hm
  rw [i64_xor_nat _ _ (by omega) (by omega), xor_bit1 hr]
theorem i64_or_bit0 {m r M : Nat} (hM : M = 2 ^ m) (hm : m < 60) (hr : r < M) : bits .or .i64 (r : Int) (M : Int) = ((M + r : Nat) : Int) := by
  subst hM
  have h1 : 2 ^ m < 2 ^ 60 := Nat.pow_lt_pow_right (by decide) hm
  rw [(bits_nat .i64 63 (by decide) i64_wraps _ _ (by omega) (by omega)).2, or_bit0 hr]
theorem i64_or_zero (r : Nat) (hr : r < 2 ^ 60) : bits .or .i64 (r : Int) 0 = (r : Int) := by
  have := (bits_nat .i64 63 (by decide) i64_wraps r 0 (by omega) (by decide)).2
  rwa [Nat.or_zero] at this

/-- The reversed number after one more, bit by bit: the bit M = 2^m of j is looked at; j is the reversed s. -/
theorem br_carry (m s : Nat) (h : s % 2 = 1) : br (m + 1) s = 2 ^ m + br m (s / 2) ∧ br (m + 1) (s + 1) = br m (s / 2 + 1) := by
  constructor
  · rw [br, h, Nat.one_mul]
  · rw [br, show (s + 1) % 2 = 0 by omega, show (s + 1) / 2 = s / 2 + 1 by omega, Nat.zero_mul, Nat.zero_add]
theorem br_stay (m s : Nat) (h : s % 2 = 0) : br (m + 1) s = br m (s / 2) ∧ br (m + 1) (s + 1) = 2 ^ m + br m (s / 2) := by
  constructor
  · rw [br, h, Nat.zero_mul, Nat.zero_add]
  · rw [br, show (s + 1) % 2 = 1 by omega, show (s + 1) / 2 = s / 2 by omega, Nat.one_mul]
end Go.Proofs.Ygctai
