/-
  ntt.Root; the roots and their inverses.
-/
import Derived.Test.YgctaiNB
namespace Go.Proofs.Ygctai
open Go.RowKit
set_option linter.unusedVariables false

/-- A power modulo P by squaring. -/
def fpow : Nat → Nat → Nat → Nat → Nat
  | 0, _, _, r => r
  | n + 1, a, e, r => fpow n (a * a % PP) (e / 2) (if e % 2 = 1 then r * a % PP else r)
theorem fpow_eqm : ∀ (n a e r : Nat), e < 2 ^ n → Eqm (fpow n a e r) (r * a ^ e)
  | 0, a, e, r, h => by
    obtain rfl : e = 0 := by simpa using h
    rw [fpow, Nat.pow_zero, Nat.mul_one]; exact Eqm.refl _
  | n + 1, a, e, r, h => by
    have ih := fpow_eqm n (a * a % PP) (e / 2) (if e % 2 = 1 then r * a % PP else r) (by rw [Nat.pow_succ] at h; omega)
    rw [fpow]
    refine ih.trans ?_
    by_cases h1 : e % 2 = 1
    · rw [if_pos h1]
      exact ((eqm_mod _).mul ((eqm_mod _).pow _)).trans (pow_odd r a e h1)
    · rw [if_neg h1]
      exact ((Eqm.refl _).mul ((eqm_mod _).pow _)).trans (pow_even r a e (by omega))
theorem f3 : fpow 30 3 499122176 1 = 998244352 := by decide +kernel
theorem f2 : fpow 30 2 998244352 1 = 1 := by decide +kernel
theorem three_half {e : Nat} (he : e = 499122176) : Eqm (3 ^ e + 1) 0 := by
  have h := fpow_eqm 30 3 e 1 (by rw [he]; decide)
  rw [Nat.one_mul, he, f3] at h
  rw [he]
  exact (h.symm.add (Eqm.refl 1)).trans (show (998244352 + 1) % PP = 0 % PP by decide)
theorem two_full {e : Nat} (he : e = 998244352) : Eqm (2 ^ e) 1 := by
  have h := fpow_eqm 30 2 e 1 (by rw [he]; decide)
  rw [Nat.one_mul, he, f2] at h
  rw [he]; exact h.symm
theorem shift_exp {k : Nat} (hk : k < 10) : 998244352 / 2 ^ (k + 1) * 2 ^ k = 499122176 := by
  rcases (by omega : k = 0 ∨ k = 1 ∨ k = 2 ∨ k = 3 ∨ k = 4 ∨ k = 5 ∨ k = 6 ∨ k = 7 ∨ k = 8 ∨ k = 9) with h | h | h | h | h | h | h | h | h | h <;> subst h <;> decide
theorem root_rtm {r k : Nat} (hk : k ≤ 10) (hr : ∀ e, e = 998244352 / 2 ^ k → Eqm r (3 ^ e)) : Rtm r k := by
  obtain ⟨e, he⟩ : ∃ e, e = 998244352 / 2 ^ k := ⟨_, rfl⟩
  have h1 := hr e he
  cases k with
  | zero =>
    show Eqm r 1
    refine h1.trans ?_
    obtain ⟨d, hd⟩ : ∃ d : Nat, d = 499122176 := ⟨_, rfl⟩
    have h2 : e = d * 2 := by rw [he, hd]
    rw [h2, Nat.pow_mul, Nat.pow_two]
    exact even_pow (three_half hd)
  | succ k =>
    show Eqm (r ^ 2 ^ k + 1) 0
    refine ((h1.pow (2 ^ k)).add (Eqm.refl 1)).trans ?_
    rw [← Nat.pow_mul]
    exact three_half (by rw [he]; exact shift_exp (by omega))
theorem rtm_1024 {r k : Nat} (hk : k ≤ 10) (h : Rtm r k) {z : Nat} (hz : z = 1024) : Eqm (r ^ z) 1 := by
  have h1 := (rtm_one h).pow (2 ^ (10 - k))
  have h2 : 2 ^ k * 2 ^ (10 - k) = z := by rw [← Nat.pow_add, show k + (10 - k) = 10 by omega, hz]
  rw [Nat.one_pow, ← Nat.pow_mul, h2] at h1
  exact h1
/-- The inverse root. -/
theorem root_inv {r v k z : Nat} (hk : k ≤ 10) (h : Rtm r k) (hv : ∀ e, e = 998244351 → Eqm v (r ^ e)) (hz : z = 1023) : Eqm v (r ^ z) := by
  obtain ⟨e, he⟩ : ∃ e : Nat, e = 998244351 := ⟨_, rfl⟩
  obtain ⟨y, hy⟩ : ∃ y : Nat, y = 1024 := ⟨_, rfl⟩
  refine (hv e he).trans ?_
  obtain ⟨c, hc⟩ : ∃ c : Nat, c = 974847 := ⟨_, rfl⟩
  have h1 := ((rtm_1024 hk h hy).pow c).mul (Eqm.refl (r ^ z))
  rw [Nat.one_pow, Nat.one_mul, ← Nat.pow_mul, ← Nat.pow_add, show y * c + z = e by rw [hy, hc, hz, he]] at h1
  exact h1
/-- The inverse of the length. -/
theorem len_inv {v k : Nat} (hv : ∀ e, e = 998244351 → Eqm v ((2 ^ k) ^ e)) : Eqm (v * 2 ^ k) 1 := by
  obtain ⟨e, he⟩ : ∃ e : Nat, e = 998244351 := ⟨_, rfl⟩
  refine ((hv e he).mul (Eqm.refl (2 ^ k))).trans ?_
  rw [← Nat.pow_succ, ← Nat.pow_mul, Nat.mul_comm, Nat.pow_mul]
  have := (two_full (e := e + 1) (by omega)).pow k
  rwa [Nat.one_pow] at this

set_option maxRecDepth 100000 in
/-- ntt.Root. -/
theorem ntRoot_any (k : Nat) (w : World) (hk : k ≤ 10) :
    Calls Taig.prog 140 #[.int .u8 k] w fun ev w' => ∃ r : Nat, ev = .returned (.int .u32 r) ∧ r < 998244353 ∧ Rtm r k ∧ w = w' := by
  obtain ⟨e, he⟩ : ∃ e, e = 998244352 / 2 ^ k := ⟨_, rfl⟩
  have hel : e < 4294967296 := by rw [he]; exact Nat.lt_of_le_of_lt (Nat.div_le_self _ _) (by decide)
  have hI : (998244352 : Int) / 2 ^ k = (e : Int) := by rw [he]; simp
  have K := hide (powMod_any 3 e w (by decide) hel)
  have HE := hide he
  clear he
  go_enter Taig.func140, Taig.ntmps140
  go_wp2_with fail
  refine (unhide K).mono ?_
  rintro ev w' ⟨r, rfl, hr, hr2, rfl⟩
  have HR := hide hr
  clear hr
  go_wp2
  go_ret
  exact ⟨r, rfl, HR, root_rtm hk (fun e' he' => by rw [he', ← unhide HE]; exact hr2), rfl⟩
end Go.Proofs.Ygctai
