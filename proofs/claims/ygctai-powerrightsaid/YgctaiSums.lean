/-
  Sums of products of digits. Plain.
-/
import Derived.Test.YgctaiConv
import Derived.Test.YgctaiMath
namespace Go.Proofs.Ygctai
set_option linter.unusedVariables false

theorem nsum_congr {f g : Nat → Nat} (n : Nat) (h : ∀ i, i < n → f i = g i) : nsum f n = nsum g n := by
  induction n with
  | zero => rfl
  | succ n ih => rw [nsum, nsum, ih (fun i hi => h i (by omega)), h n (by omega)]
theorem nsum_zero {f : Nat → Nat} (n : Nat) (h : ∀ i, i < n → f i = 0) : nsum f n = 0 := by
  induction n with
  | zero => rfl
  | succ n ih => rw [nsum, ih (fun i hi => h i (by omega)), h n (by omega)]
theorem nsum_one {f : Nat → Nat} {n p : Nat} (hp : p < n) (h : ∀ i, i < n → i ≠ p → f i = 0) : nsum f n = f p := by
  induction n with
  | zero => omega
  | succ n ih =>
    rw [nsum]
    by_cases e : p = n
    · subst e
      rw [nsum_zero p (fun i hi => h i (by omega) (by omega)), Nat.zero_add]
    · rw [ih (by omega) (fun i hi hne => h i (by omega) hne), h n (by omega) (by omega), Nat.add_zero]
theorem nsum_ext {f : Nat → Nat} {m n : Nat} (hmn : m ≤ n) (h : ∀ i, m ≤ i → i < n → f i = 0) : nsum f n = nsum f m := by
  induction n with
  | zero => rw [Nat.le_zero.1 hmn]
  | succ n ih =>
    rcases Nat.eq_or_lt_of_le hmn with e | e
    · rw [e]
    · rw [nsum, h n (by omega) (by omega), ih (by omega) (fun i a b => h i a (by omega)), Nat.add_zero]
theorem nsum_mul (f : Nat → Nat) (k n : Nat) : nsum f n * k = nsum (fun i => f i * k) n := by
  induction n with
  | zero => simp [nsum]
  | succ n ih => rw [nsum, nsum, Nat.add_mul, ih]
theorem nsum_add (f g : Nat → Nat) (n : Nat) : nsum f n + nsum g n = nsum (fun i => f i + g i) n := by
  induction n with
  | zero => rfl
  | succ n ih => rw [nsum, nsum, nsum, ← ih]; omega
theorem nsum_le {f g : Nat → Nat} (n : Nat) (h : ∀ i, i < n → f i ≤ g i) : nsum f n ≤ nsum g n := by
  induction n with
  | zero => exact Nat.le_refl _
  | succ n ih => rw [nsum, nsum]; have := ih (fun i hi => h i (by omega)); have := h n (by omega); omega
theorem nsum_swap (F : Nat → Nat → Nat) (m n : Nat) : nsum (fun i => nsum (fun j => F i j) n) m = nsum (fun j => nsum (fun i => F i j) m) n := by
  induction m with
  | zero => rw [nsum_zero (f := fun j => nsum (fun i => F i j) 0) n (fun _ _ => rfl)]; rfl
  | succ m ih =>
    rw [nsum, ih, nsum_add]
    exact nsum_congr n fun j _ => rfl

/-- The sum of products at place m. -/
def lc (f g : Nat → Nat) (m : Nat) : Nat := nsum (fun i => f i * g (m - i)) (m + 1)

theorem inner_pick {n m i : Nat} (hn : n ∣ 1024) (hn0 : 0 < n) (hm : m < n) (hi : i < n) (i' : Nat) (hi' : i' < n) : (i + i' + 1023 * m) % n = 0 ↔ (i' = if i ≤ m then m - i else n + m - i) := by
  obtain ⟨c, hc⟩ := hn
  have e : (i + i' + 1023 * m) % n = (i + i' + (n - m)) % n := by
    have : i + i' + 1023 * m + n = i + i' + (n - m) + 1024 * m := by omega
    have h1 : (i + i' + 1023 * m + n) % n = (i + i' + 1023 * m) % n := Nat.add_mod_right _ _
    have h2 : (i + i' + (n - m) + 1024 * m) % n = (i + i' + (n - m)) % n := by
      rw [hc, Nat.mul_assoc, Nat.add_mul_mod_self_left]
    rw [← h1, this, h2]
  rw [e]
  constructor
  · intro h
    have hd : n ∣ (i + i' + (n - m)) := Nat.dvd_of_mod_eq_zero h
    obtain ⟨z, hz⟩ := hd
    have hz3 : z < 3 := by
      rcases Nat.lt_or_ge z 3 with h | h
      · exact h
      · have := Nat.mul_le_mul_left n h; omega
    have : z = 0 ∨ z = 1 ∨ z = 2 := by omega
    rcases this with rfl | rfl | rfl
    · omega
    · split <;> omega
    · split <;> omega
  · intro h
    split at h
    · have : i + i' + (n - m) = n * 1 := by omega
      rw [this, Nat.mul_mod_right]
    · have : i + i' + (n - m) = n * 2 := by omega
      rw [this, Nat.mul_mod_right]

theorem cvs_lc {f g : Nat → Nat} {la lb n m : Nat} (hz : ∀ i, la ≤ i → f i = 0) (hz2 : ∀ i, lb ≤ i → g i = 0) (hn : n ∣ 1024) (hn0 : 0 < n) (hl : la + lb - 1 ≤ n) (hm : m < n) : cvs f g n m = lc f g m := by
  unfold cvs lc
  have e : ∀ i, i < n → nsum (fun i' => if (i + i' + 1023 * m) % n = 0 then f i * g i' else 0) n = if i ≤ m then f i * g (m - i) else 0 := fun i hi => by
    have hp : (if i ≤ m then m - i else n + m - i) < n := by split <;> omega
    rw [nsum_one hp (fun i' hi' hne => if_neg fun h => hne ((inner_pick hn hn0 hm hi i' hi').1 h))]
    rw [if_pos ((inner_pick hn hn0 hm hi _ hp).2 rfl)]
    by_cases h : i ≤ m
    · rw [if_pos h, if_pos h]
    · rw [if_neg h, if_neg h]
      rcases Nat.lt_or_ge i la with h1 | h1
      · rw [hz2 (n + m - i) (by omega), Nat.mul_zero]
      · rw [hz i h1, Nat.zero_mul]
  rw [nsum_congr n e, nsum_ext (m := m + 1) (by omega) (fun i h1 h2 => if_neg (by omega))]
  exact nsum_congr _ fun i hi => if_pos (by omega)

theorem lc_zero {f g : Nat → Nat} {la lb m : Nat} (hz : ∀ i, la ≤ i → f i = 0) (hz2 : ∀ i, lb ≤ i → g i = 0) (hm : la + lb - 1 ≤ m) : lc f g m = 0 := by
  unfold lc
  refine nsum_zero _ fun i hi => ?_
  rcases Nat.lt_or_ge i la with h1 | h1
  · rw [hz2 (m - i) (by omega), Nat.mul_zero]
  · rw [hz i h1, Nat.zero_mul]

theorem lc_lt {f g : Nat → Nat} (hf : ∀ i, f i < 256) (hg : ∀ i, g i < 256) (m : Nat) : lc f g m ≤ (m + 1) * 65025 := by
  unfold lc
  have h : nsum (fun i => f i * g (m - i)) (m + 1) ≤ nsum (fun _ => 65025) (m + 1) := nsum_le _ fun i _ => by
    have h1 : f i * g (m - i) ≤ 255 * 255 := Nat.mul_le_mul (by have := hf i; omega) (by have := hg (m - i); omega)
    omega
  have h2 : ∀ n, nsum (fun _ => 65025) n = n * 65025 := fun n => by induction n with | zero => rfl | succ n ih => rw [nsum, ih]; omega
  rw [h2] at h; exact h

/-- The number of sums c. -/
def csv (c : Nat → Nat) (n : Nat) : Nat := nsum (fun i => c i * 256 ^ i) n
theorem val_csv (f : Nat → Nat) (n : Nat) : val f n = csv f n := by
  induction n with
  | zero => rfl
  | succ n ih => rw [val, ih]; rfl

/-- Sums of products make the product. -/
theorem lc_prod (f g : Nat → Nat) (n : Nat) (hz : ∀ i, n ≤ i → f i = 0) (hz2 : ∀ i, n ≤ i → g i = 0) : csv (lc f g) (2 * n) = csv f n * csv g n := by
  unfold csv lc
  -- over a square of 2n by 2n
  have e1 : nsum (fun m => nsum (fun i => f i * g (m - i)) (m + 1) * 256 ^ m) (2 * n) = nsum (fun m => nsum (fun i => if i ≤ m then f i * g (m - i) * 256 ^ m else 0) (2 * n)) (2 * n) := nsum_congr _ fun m hm => by
    rw [nsum_mul, nsum_ext (m := m + 1) (n := 2 * n) (by omega) (fun i h1 h2 => if_neg (by omega))]
    exact nsum_congr _ fun i hi => by rw [if_pos (by omega)]
  rw [e1, nsum_swap]
  have e2 : ∀ i, i < 2 * n → nsum (fun m => if i ≤ m then f i * g (m - i) * 256 ^ m else 0) (2 * n) = f i * 256 ^ i * csv g n := fun i hi => by
    rcases Nat.lt_or_ge i n with h | h
    · -- shift by i
      have e3 : ∀ k, k ≤ 2 * n → i ≤ k → nsum (fun m => if i ≤ m then f i * g (m - i) * 256 ^ m else 0) k = f i * 256 ^ i * nsum (fun j => g j * 256 ^ j) (k - i) := fun k => by
        induction k with
        | zero => intro _ h0; rw [Nat.zero_sub]; simp [nsum]
        | succ k ih =>
          intro hk hik
          rcases Nat.eq_or_lt_of_le hik with e | e
          · rw [← e, Nat.sub_self]
            rw [nsum_zero _ (fun m hm => if_neg (by omega))]; simp [nsum]
          · rw [nsum, ih (by omega) (by omega), if_pos (by omega), show k + 1 - i = k - i + 1 by omega, nsum, Nat.mul_add]
            congr 1
            rw [Nat.mul_assoc (f i), Nat.mul_assoc (f i), Nat.mul_left_comm (256 ^ i), ← Nat.pow_add, show i + (k - i) = k by omega]
      rw [e3 (2 * n) (Nat.le_refl _) (by omega)]
      congr 1
      rw [nsum_ext (m := n) (by omega) (fun j h1 h2 => by rw [hz2 j h1, Nat.zero_mul])]
      rfl
    · rw [hz i h, Nat.zero_mul, Nat.zero_mul]
      exact nsum_zero _ fun m hm => by split <;> simp
  rw [nsum_congr _ e2, ← nsum_mul, nsum_ext (m := n) (by omega) (fun i h1 h2 => by rw [hz i h1, Nat.zero_mul])]
  rfl

end Go.Proofs.Ygctai
