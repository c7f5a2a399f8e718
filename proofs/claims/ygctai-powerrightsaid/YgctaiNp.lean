/-
  PLAIN: the transform modulo P = 998244353. No Go in sight.
-/
import Derived.Test.YgctaiSums
namespace Go.Proofs.Ygctai

/-- The prime. -/
def PP : Nat := 998244353
theorem pp_pos : 0 < PP := by decide
/-- Equal modulo P. -/
def Eqm (a b : Nat) : Prop := a % PP = b % PP
theorem Eqm.refl (a : Nat) : Eqm a a := rfl
theorem Eqm.symm {a b : Nat} (h : Eqm a b) : Eqm b a := Eq.symm h
theorem Eqm.trans {a b c : Nat} (h : Eqm a b) (k : Eqm b c) : Eqm a c := Eq.trans h k
theorem eqm_mod (a : Nat) : Eqm (a % PP) a := Nat.mod_mod _ _
theorem Eqm.add {a b c d : Nat} (h : Eqm a b) (k : Eqm c d) : Eqm (a + c) (b + d) := by
  unfold Eqm at *; rw [Nat.add_mod, h, k, ← Nat.add_mod]
theorem Eqm.mul {a b c d : Nat} (h : Eqm a b) (k : Eqm c d) : Eqm (a * c) (b * d) := by
  unfold Eqm at *; rw [Nat.mul_mod, h, k, ← Nat.mul_mod]
theorem Eqm.pow {a b : Nat} (h : Eqm a b) : ∀ n, Eqm (a ^ n) (b ^ n)
  | 0 => rfl
  | n + 1 => by rw [Nat.pow_succ, Nat.pow_succ]; exact (h.pow n).mul h
/-- What is added on both sides goes. -/
theorem Eqm.cancel {a b v : Nat} (h : Eqm (a + v) (b + v)) : Eqm a b := by
  have h2 : Eqm (a + v + (PP * v - v)) (b + v + (PP * v - v)) := h.add (Eqm.refl _)
  have hv : v ≤ PP * v := Nat.le_mul_of_pos_left _ pp_pos
  rw [show a + v + (PP * v - v) = a + PP * v by omega, show b + v + (PP * v - v) = b + PP * v by omega] at h2
  unfold Eqm at *
  rwa [Nat.add_mul_mod_self_left, Nat.add_mul_mod_self_left] at h2
theorem eqm_addP (a k : Nat) : Eqm (a + PP * k) a := Nat.add_mul_mod_self_left _ _ _
theorem eqm_lt {a b : Nat} (h : Eqm a b) (ha : a < PP) (hb : b < PP) : a = b := by
  unfold Eqm at h; rwa [Nat.mod_eq_of_lt ha, Nat.mod_eq_of_lt hb] at h
theorem nsum_eqm {f g : Nat → Nat} (n : Nat) (h : ∀ i, i < n → Eqm (f i) (g i)) : Eqm (nsum f n) (nsum g n) := by
  induction n with
  | zero => rfl
  | succ n ih => exact (ih fun i hi => h i (by omega)).add (h n (by omega))

theorem nsum_two (f : Nat → Nat) (c : Nat) : nsum f (2 * c) = nsum (fun i => f (2 * i)) c + nsum (fun i => f (2 * i + 1)) c := by
  induction c with
  | zero => rfl
  | succ c ih =>
    rw [show 2 * (c + 1) = 2 * c + 1 + 1 by omega, nsum, nsum, ih, nsum, nsum]; omega
theorem nsum_app (f : Nat → Nat) (m n : Nat) : nsum f (m + n) = nsum f m + nsum (fun i => f (m + i)) n := by
  induction n with
  | zero => rfl
  | succ n ih => rw [← Nat.add_assoc, nsum, ih, nsum]; omega

/-! ### the transform of part of a vector -/
/-- The sum of x(r + i h) w^(h i j) over i < c. -/
def DM (w : Nat) (x : Nat → Nat) (c h r j : Nat) : Nat := nsum (fun i => x (r + i * h) * w ^ (h * (i * j))) c
theorem dm_two (w : Nat) (x : Nat → Nat) (c h r j : Nat) : DM w x (2 * c) h r j = DM w x c (2 * h) r j + w ^ (h * j) * DM w x c (2 * h) (r + h) j := by
  unfold DM
  rw [nsum_two, Nat.mul_comm (w ^ (h * j)), nsum_mul]
  congr 1
  · exact nsum_congr _ fun i _ => by rw [Nat.mul_assoc 2 i h, Nat.mul_left_comm 2 i h, Nat.mul_assoc 2 i j, Nat.mul_left_comm h 2, ← Nat.mul_assoc 2 h]
  · refine nsum_congr _ fun i _ => ?_
    rw [show r + (2 * i + 1) * h = r + h + i * (2 * h) by rw [Nat.add_mul, Nat.one_mul, Nat.mul_assoc, Nat.mul_left_comm 2 i h]; omega, Nat.mul_assoc, ← Nat.pow_add]
    congr 2
    rw [Nat.add_mul, Nat.one_mul, Nat.mul_add, Nat.mul_assoc 2 i j, Nat.mul_left_comm h 2, ← Nat.mul_assoc 2 h]
/-- Periodic in j. -/
theorem dm_round {w c h : Nat} (x : Nat → Nat) (r j : Nat) (hw : Eqm (w ^ (h * c)) 1) : Eqm (DM w x c h r (j + c)) (DM w x c h r j) := by
  unfold DM
  refine nsum_eqm _ fun i _ => (Eqm.refl _).mul ?_
  rw [Nat.mul_add, Nat.mul_add, Nat.pow_add, Nat.mul_comm i c, ← Nat.mul_assoc h c i, Nat.pow_mul w (h * c) i]
  have := (Eqm.refl (w ^ (h * (i * j)))).mul (hw.pow i)
  rw [Nat.one_pow, Nat.mul_one] at this
  exact this
/-- The lower half of a butterfly. -/
theorem bm_low (w : Nat) (x : Nat → Nat) (c h r j : Nat) {u v : Nat} (hu : Eqm u (DM w x c (2 * h) r j)) (hv : Eqm v (w ^ (h * j) * DM w x c (2 * h) (r + h) j)) : Eqm (u + v) (DM w x (2 * c) h r j) := by
  rw [dm_two]; exact hu.add hv
/-- The upper half. -/
theorem bm_high {w : Nat} (x : Nat → Nat) (c h r j : Nat) {u v z : Nat} (h1 : Eqm (w ^ (2 * h * c)) 1) (h2 : Eqm (w ^ (h * c) + 1) 0) (hu : Eqm u (DM w x c (2 * h) r j)) (hv : Eqm v (w ^ (h * j) * DM w x c (2 * h) (r + h) j))
    (hz : Eqm (z + v) u) : Eqm z (DM w x (2 * c) h r (j + c)) := by
  have a1 := dm_round x r j h1
  have a2 := dm_round x (r + h) j h1
  apply Eqm.cancel (v := v)
  refine (hz.trans hu).trans (Eqm.symm ?_)
  rw [dm_two]
  refine ((a1.add ((Eqm.refl _).mul a2)).add hv).trans ?_
  rw [Nat.mul_add, Nat.pow_add, Nat.add_assoc, Nat.mul_right_comm, ← Nat.mul_succ]
  have := (Eqm.refl (DM w x c (2 * h) r j)).add ((Eqm.refl (w ^ (h * j) * DM w x c (2 * h) (r + h) j)).mul h2)
  rw [Nat.mul_zero, Nat.add_zero] at this
  exact this

/-! ### orthogonality -/
theorem even_pow {H : Nat} (h : Eqm (H + 1) 0) : Eqm (H * H) 1 := by
  apply Eqm.cancel (v := H)
  have h1 := h.mul (Eqm.refl H)
  rw [Nat.zero_mul, Nat.add_mul, Nat.one_mul] at h1
  refine h1.trans ?_
  rw [Nat.add_comm]; exact h.symm
theorem odd_pow {H : Nat} (h : Eqm (H + 1) 0) (q : Nat) (hq : q % 2 = 1) : Eqm (H ^ q) H := by
  obtain ⟨m, rfl⟩ : ∃ m, q = 2 * m + 1 := ⟨q / 2, by omega⟩
  rw [Nat.pow_succ, Nat.pow_mul, Nat.pow_two]
  have := ((even_pow h).pow m).mul (Eqm.refl H)
  rwa [Nat.one_pow, Nat.one_mul] at this
/-- w is a root of order 2^k. -/
def Rtm (w : Nat) : Nat → Prop
  | 0 => Eqm w 1
  | k + 1 => Eqm (w ^ 2 ^ k + 1) 0
theorem rtm_one {w : Nat} : ∀ {k : Nat}, Rtm w k → Eqm (w ^ 2 ^ k) 1
  | 0, h => by rw [Nat.pow_zero, Nat.pow_one]; exact h
  | k + 1, h => by rw [Nat.pow_succ, Nat.pow_mul, Nat.pow_two]; exact even_pow h
theorem rtm_sq {w k : Nat} (h : Rtm w (k + 1)) : Rtm (w ^ 2) k := by
  cases k with
  | zero => have := rtm_one h; simpa [Rtm] using this
  | succ k =>
    show Eqm ((w ^ 2) ^ 2 ^ k + 1) 0
    rw [← Nat.pow_mul, Nat.mul_comm 2, ← Nat.pow_succ]; exact h
theorem orthm : ∀ (k w q : Nat), Rtm w k → Eqm (nsum (fun j => w ^ (j * q)) (2 ^ k)) (if q % 2 ^ k = 0 then 2 ^ k else 0)
  | 0, w, q, _ => by simp [nsum, Nat.mod_one]; exact Eqm.refl _
  | k + 1, w, q, hw => by
    rw [show 2 ^ (k + 1) = 2 ^ k + 2 ^ k by rw [Nat.pow_succ]; omega, nsum_app]
    rcases Nat.mod_two_eq_zero_or_one q with hq | hq
    · obtain ⟨q', rfl⟩ : ∃ q', q = 2 * q' := ⟨q / 2, by omega⟩
      have ih := orthm k (w ^ 2) q' (rtm_sq hw)
      have e1 : nsum (fun j => w ^ (j * (2 * q'))) (2 ^ k) = nsum (fun j => (w ^ 2) ^ (j * q')) (2 ^ k) := nsum_congr _ fun j _ => by rw [← Nat.pow_mul, Nat.mul_left_comm]
      have e2 : Eqm (nsum (fun j => w ^ ((2 ^ k + j) * (2 * q'))) (2 ^ k)) (nsum (fun j => (w ^ 2) ^ (j * q')) (2 ^ k)) := nsum_eqm _ fun j _ => by
        rw [Nat.add_mul, Nat.pow_add, ← Nat.mul_assoc (2 ^ k), ← Nat.pow_succ, Nat.pow_mul w, Nat.mul_left_comm j, Nat.pow_mul w 2]
        have := ((rtm_one hw).pow q').mul (Eqm.refl ((w ^ 2) ^ (j * q')))
        rwa [Nat.one_pow, Nat.one_mul] at this
      rw [e1]
      refine ((Eqm.refl _).add e2).trans ((ih.add ih).trans ?_)
      have e3 : (2 * q' % (2 ^ k + 2 ^ k) = 0) ↔ (q' % 2 ^ k = 0) := by
        rw [← Nat.two_mul, Nat.mul_mod_mul_left]; have := Nat.two_pow_pos k; omega
      by_cases h : q' % 2 ^ k = 0
      · rw [if_pos h, if_pos (e3.2 h)]; exact Eqm.refl _
      · rw [if_neg h, if_neg (fun h2 => h (e3.1 h2))]; exact Eqm.refl _
    · have h0 : ¬ q % (2 ^ k + 2 ^ k) = 0 := fun h => by
        have := Nat.mod_mod_of_dvd q (⟨2 ^ k, by omega⟩ : 2 ∣ 2 ^ k + 2 ^ k)
        omega
      rw [if_neg h0]
      have e2 : Eqm (nsum (fun j => w ^ ((2 ^ k + j) * q)) (2 ^ k)) (nsum (fun j => w ^ (j * q)) (2 ^ k) * w ^ 2 ^ k) := by
        rw [nsum_mul]
        refine nsum_eqm _ fun j _ => ?_
        rw [Nat.add_mul, Nat.pow_add, Nat.pow_mul w (2 ^ k) q, Nat.mul_comm]
        exact (Eqm.refl _).mul (odd_pow hw q hq)
      refine ((Eqm.refl _).add e2).trans ?_
      have := (Eqm.refl (nsum (fun j => w ^ (j * q)) (2 ^ k))).mul hw
      rw [Nat.mul_add, Nat.mul_one, Nat.mul_zero, Nat.add_comm] at this
      exact this

/-! ### the transform and back -/
/-- The transform. -/
def FM (w : Nat) (x : Nat → Nat) (n j : Nat) : Nat := nsum (fun i => x i * w ^ (i * j)) n
theorem fm_dm (w : Nat) (x : Nat → Nat) (n j : Nat) : DM w x n 1 0 j = FM w x n j := nsum_congr _ fun i _ => by rw [Nat.zero_add, Nat.mul_one, Nat.one_mul]
theorem nsum_prod (f g : Nat → Nat) (m n : Nat) : nsum f m * nsum g n = nsum (fun i => nsum (fun j => f i * g j) n) m := by
  rw [nsum_mul]
  refine nsum_congr _ fun i _ => ?_
  rw [Nat.mul_comm, nsum_mul]
  exact nsum_congr _ fun j _ => Nat.mul_comm _ _
/-- Back from a product: the cyclic convolution, n times. -/
theorem back_prod {w v k z : Nat} (hz : z = 1023) (hw : Rtm w k) (hv : Eqm v (w ^ z)) (f g : Nat → Nat) (m : Nat) :
    Eqm (FM v (fun j => FM w f (2 ^ k) j * FM w g (2 ^ k) j) (2 ^ k) m) (2 ^ k * cvs f g (2 ^ k) m) := by
  have e1 : Eqm (FM v (fun j => FM w f (2 ^ k) j * FM w g (2 ^ k) j) (2 ^ k) m) (nsum (fun j => nsum (fun i => nsum (fun i' => f i * g i' * w ^ (j * (i + i' + z * m))) (2 ^ k)) (2 ^ k)) (2 ^ k)) := by
    refine nsum_eqm _ fun j _ => ?_
    refine ((Eqm.refl _).mul (hv.pow (j * m))).trans ?_
    unfold FM
    dsimp only
    rw [nsum_prod, nsum_mul]
    refine nsum_eqm _ fun i _ => ?_
    rw [nsum_mul]
    refine nsum_eqm _ fun i' _ => ?_
    rw [Nat.mul_mul_mul_comm, Nat.mul_assoc, ← Nat.pow_add, ← Nat.pow_mul, ← Nat.pow_add, Nat.mul_add, Nat.mul_add, Nat.mul_comm i j, Nat.mul_comm i' j, Nat.mul_left_comm z j m]
    exact Eqm.refl _
  refine e1.trans ?_
  rw [nsum_swap]
  have e2 : Eqm (nsum (fun i => nsum (fun j => nsum (fun i' => f i * g i' * w ^ (j * (i + i' + z * m))) (2 ^ k)) (2 ^ k)) (2 ^ k)) (nsum (fun i => nsum (fun i' => if (i + i' + z * m) % 2 ^ k = 0 then f i * g i' else 0) (2 ^ k) * 2 ^ k) (2 ^ k)) := by
    refine nsum_eqm _ fun i _ => ?_
    rw [nsum_swap, nsum_mul]
    refine nsum_eqm _ fun i' _ => ?_
    have e3 : nsum (fun j => f i * g i' * w ^ (j * (i + i' + z * m))) (2 ^ k) = nsum (fun j => w ^ (j * (i + i' + z * m))) (2 ^ k) * (f i * g i') := by
      rw [nsum_mul]; exact nsum_congr _ fun j _ => Nat.mul_comm _ _
    rw [e3]
    have := (orthm k w (i + i' + z * m) hw).mul (Eqm.refl (f i * g i'))
    refine this.trans ?_
    by_cases h : (i + i' + z * m) % 2 ^ k = 0
    · rw [if_pos h, if_pos h, Nat.mul_comm]; exact Eqm.refl _
    · rw [if_neg h, if_neg h, Nat.zero_mul, Nat.zero_mul]; exact Eqm.refl _
  refine e2.trans ?_
  unfold cvs
  rw [Nat.mul_comm (2 ^ k), nsum_mul, hz]
  exact Eqm.refl _
end Go.Proofs.Ygctai
