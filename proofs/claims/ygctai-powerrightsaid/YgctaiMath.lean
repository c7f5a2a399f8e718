/-
  PLAIN MATHEMATICS: naturals in base 256 as functions of the place. No Go in sight.
-/
namespace Go.Proofs.Ygctai

/-- The number of the n lowest digits. -/
def val (f : Nat → Nat) : Nat → Nat
  | 0 => 0
  | n + 1 => val f n + f n * 256 ^ n

/-- Digit i of N. -/
def dig (N i : Nat) : Nat := N / 256 ^ i % 256

/-- How many digits N has: 0 for 0. -/
def dlen (N : Nat) : Nat := if N = 0 then 0 else N.log2 / 8 + 1

/-- f with the value at i turned. -/
def upd {α : Type} (f : Nat → α) (i : Nat) (v : α) : Nat → α := fun j => if j = i then v else f j

theorem upd_at {α : Type} (f : Nat → α) (i : Nat) (v : α) : upd f i v i = v := by simp [upd]
theorem upd_ne {α : Type} (f : Nat → α) {i j : Nat} (v : α) (h : j ≠ i) : upd f i v j = f j := by simp [upd, h]

theorem pow256_pos (n : Nat) : 0 < 256 ^ n := Nat.pow_pos (by decide)
theorem pow256_succ (n : Nat) : 256 ^ (n + 1) = 256 * 256 ^ n := by rw [Nat.pow_succ, Nat.mul_comm]
theorem pow256_mono {m n : Nat} (h : m ≤ n) : 256 ^ m ≤ 256 ^ n := Nat.pow_le_pow_right (by decide) h

theorem val_congr {f g : Nat → Nat} (n : Nat) (h : ∀ i, i < n → f i = g i) : val f n = val g n := by
  induction n with
  | zero => rfl
  | succ n ih => rw [val, val, ih (fun i hi => h i (by omega)), h n (by omega)]

theorem val_lt {f : Nat → Nat} (n : Nat) (h : ∀ i, i < n → f i < 256) : val f n < 256 ^ n := by
  induction n with
  | zero => simp [val]
  | succ n ih =>
    have h1 := ih (fun i hi => h i (by omega))
    have h2 : f n * 256 ^ n ≤ 255 * 256 ^ n := Nat.mul_le_mul_right _ (by have := h n (by omega); omega)
    rw [val, pow256_succ]; omega

theorem val_zero (n : Nat) : val (fun _ => 0) n = 0 := by
  induction n with
  | zero => rfl
  | succ n ih => rw [val, ih]; simp

theorem val_high {f : Nat → Nat} {m n : Nat} (h : m ≤ n) (hz : ∀ i, m ≤ i → i < n → f i = 0) : val f n = val f m := by
  induction n with
  | zero => rw [Nat.le_zero.1 h]
  | succ n ih =>
    rcases Nat.eq_or_lt_of_le h with e | e
    · rw [e]
    · rw [val, hz n (by omega) (by omega), ih (by omega) (fun i a b => hz i a (by omega))]; simp

/-- The lowest digit apart. -/
theorem val_low (f : Nat → Nat) (n : Nat) : val f (n + 1) = f 0 + 256 * val (fun i => f (i + 1)) n := by
  induction n with
  | zero => simp [val]
  | succ n ih => rw [val, ih, val, pow256_succ, Nat.mul_add, Nat.mul_left_comm, Nat.add_assoc]

/-- Cut at m. -/
theorem val_split (f : Nat → Nat) (m n : Nat) : val f (m + n) = val f m + 256 ^ m * val (fun i => f (m + i)) n := by
  induction n with
  | zero => simp [val]
  | succ n ih => rw [← Nat.add_assoc, val, ih, val, Nat.pow_add, Nat.mul_add, Nat.add_assoc, ← Nat.mul_assoc, ← Nat.mul_assoc, Nat.mul_comm (f (m + n)) (256 ^ m)]

theorem val_upd_ge (f : Nat → Nat) {i n : Nat} (v : Nat) (h : n ≤ i) : val (upd f i v) n = val f n :=
  val_congr n fun j hj => upd_ne f v (by omega)

/-- One digit turned. -/
theorem val_upd (f : Nat → Nat) {i n : Nat} (v : Nat) (h : i < n) : val (upd f i v) n + f i * 256 ^ i = val f n + v * 256 ^ i := by
  induction n with
  | zero => omega
  | succ n ih =>
    rcases Nat.lt_or_ge i n with e | e
    · have := ih e
      rw [val, val, upd_ne f v (by omega)]; omega
    · have : i = n := by omega
      subst this
      rw [val, val, upd_at, val_upd_ge f v (Nat.le_refl _)]; omega

theorem dig_lt (N i : Nat) : dig N i < 256 := Nat.mod_lt _ (by decide)

theorem val_dig (N n : Nat) : val (dig N) n = N % 256 ^ n := by
  induction n with
  | zero => simp [val, Nat.mod_one]
  | succ n ih =>
    rw [val, ih, dig, Nat.pow_succ, Nat.mod_mul, Nat.mul_comm (256 ^ n)]

theorem dig_val {f : Nat → Nat} {n i : Nat} (hf : ∀ j, j < n → f j < 256) (hi : i < n) : dig (val f n) i = f i := by
  obtain ⟨k, rfl⟩ : ∃ k, n = i + (1 + k) := ⟨n - i - 1, by omega⟩
  unfold dig
  rw [val_split]
  have h1 := val_lt i (fun j hj => hf j (by omega))
  rw [Nat.add_mul_div_left _ _ (pow256_pos i), Nat.div_eq_of_lt h1, Nat.zero_add, Nat.add_comm 1 k, val_low]
  simp only [Nat.add_zero]
  have := hf i hi
  rw [Nat.add_mul_mod_self_left]; exact Nat.mod_eq_of_lt this

theorem two_pow8 (k : Nat) : (2 : Nat) ^ (8 * k) = 256 ^ k := by rw [Nat.pow_mul]

theorem dlen_le_iff (N k : Nat) : dlen N ≤ k ↔ N < 256 ^ k := by
  unfold dlen
  by_cases h : N = 0
  · subst h; simp [pow256_pos]
  · rw [if_neg h, ← two_pow8, ← Nat.log2_lt h]; omega

theorem lt_dlen_iff (N k : Nat) : k < dlen N ↔ 256 ^ k ≤ N := by
  have := dlen_le_iff N k
  omega

theorem dlen_zero : dlen 0 = 0 := rfl
theorem dlen_pos {N : Nat} (h : 0 < N) : 0 < dlen N := (lt_dlen_iff N 0).2 (by simp; omega)
theorem dlen_eq_zero {N : Nat} : dlen N = 0 ↔ N = 0 := by
  constructor
  · intro h
    rcases Nat.eq_zero_or_pos N with e | e
    · exact e
    · have := dlen_pos e; omega
  · rintro rfl; rfl
theorem lt_pow_dlen (N : Nat) : N < 256 ^ dlen N := (dlen_le_iff N _).1 (Nat.le_refl _)
theorem dlen_mono {M N : Nat} (h : M ≤ N) : dlen M ≤ dlen N := (dlen_le_iff _ _).2 (Nat.lt_of_le_of_lt h (lt_pow_dlen N))
theorem val_dig_dlen (N : Nat) : val (dig N) (dlen N) = N := by rw [val_dig]; exact Nat.mod_eq_of_lt (lt_pow_dlen N)

/-- The top digit is not 0. -/
theorem dig_top {N : Nat} (h : 0 < dlen N) : dig N (dlen N - 1) ≠ 0 := by
  have h1 : 256 ^ (dlen N - 1) ≤ N := (lt_dlen_iff N _).1 (by omega)
  have h2 := lt_pow_dlen N
  unfold dig
  have h3 : N / 256 ^ (dlen N - 1) < 256 := by
    rw [Nat.div_lt_iff_lt_mul (pow256_pos _), ← pow256_succ]
    rwa [show dlen N - 1 + 1 = dlen N by omega]
  rw [Nat.mod_eq_of_lt h3]
  have : 0 < N / 256 ^ (dlen N - 1) := Nat.div_pos h1 (pow256_pos _)
  omega

/-- Digits without a zero at the top are the digits of their number. -/
theorem norm_dlen {f : Nat → Nat} {n : Nat} (hf : ∀ j, j < n → f j < 256) (ht : 0 < n → f (n - 1) ≠ 0) : dlen (val f n) = n := by
  have h1 : dlen (val f n) ≤ n := (dlen_le_iff _ _).2 (val_lt n hf)
  rcases Nat.eq_zero_or_pos n with e | e
  · omega
  · have h2 : 256 ^ (n - 1) ≤ val f n := by
      obtain ⟨m, rfl⟩ : ∃ m, n = m + 1 := ⟨n - 1, by omega⟩
      have := ht (by omega)
      simp only [Nat.add_sub_cancel] at this ⊢
      rw [val]
      have : 1 * 256 ^ m ≤ f m * 256 ^ m := Nat.mul_le_mul_right _ (by omega)
      omega
    have := (lt_dlen_iff (val f n) (n - 1)).2 h2
    omega

theorem val_inj {f g : Nat → Nat} {n : Nat} (hf : ∀ j, j < n → f j < 256) (hg : ∀ j, j < n → g j < 256) (h : val f n = val g n) : ∀ i, i < n → f i = g i := by
  intro i hi
  rw [← dig_val hf hi, ← dig_val hg hi, h]

theorem val_mod (f : Nat → Nat) (m n : Nat) (hf : ∀ j, j < m → f j < 256) (h : m ≤ n) : val f n % 256 ^ m = val f m := by
  obtain ⟨k, rfl⟩ : ∃ k, n = m + k := ⟨n - m, by omega⟩
  rw [val_split, Nat.add_mul_mod_self_left]
  exact Nat.mod_eq_of_lt (val_lt m hf)

theorem val_div (f : Nat → Nat) (m n : Nat) (hf : ∀ j, j < m → f j < 256) (h : m ≤ n) : val f n / 256 ^ m = val (fun i => f (m + i)) (n - m) := by
  obtain ⟨k, rfl⟩ : ∃ k, n = m + k := ⟨n - m, by omega⟩
  rw [val_split, Nat.add_mul_div_left _ _ (pow256_pos m), Nat.div_eq_of_lt (val_lt m hf), Nat.zero_add, Nat.add_sub_cancel_left]

end Go.Proofs.Ygctai
