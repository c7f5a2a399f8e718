/-
  What fft.Nearest and fft.quarter do near a whole number. Plain.
-/
import Derived.Test.YgctaiMulF
namespace Go.Proofs.Ygctai
open Ieee
set_option linter.unusedVariables false

theorem c_half : Fn 4602678819172646912 ∧ sc 4602678819172646912 = 4503599627370496 * VV := ⟨⟨by decide, by decide⟩, by decide +kernel⟩
theorem c_mhalf : Fn 13826050856027422720 ∧ sc 13826050856027422720 = -(4503599627370496 * VV) := ⟨⟨by decide, by decide⟩, by decide +kernel⟩
theorem c_quart : Fn 4598175219545276416 ∧ sc 4598175219545276416 = 2251799813685248 * VV := ⟨⟨by decide, by decide⟩, by decide +kernel⟩
theorem c_mquart : Fn 13821547256400052224 ∧ sc 13821547256400052224 = -(2251799813685248 * VV) := ⟨⟨by decide, by decide⟩, by decide +kernel⟩
theorem c_big : Fn 4841369599423283200 ∧ sc 4841369599423283200 = 4503599627370496 * SS := ⟨⟨by decide, by decide⟩, by decide +kernel⟩
theorem c_mbig : Fn 14064741636278059008 ∧ sc 14064741636278059008 = -(4503599627370496 * SS) := ⟨⟨by decide, by decide⟩, by decide +kernel⟩

theorem ord_lt {x y : Nat} (hx : Fn x) (hy : Fn y) (h : sc x < sc y) : double.order x y = some .lt := by
  rw [order_spec hx hy]; simp [compare, compareOfLessAndEq, h]
theorem ord_gt {x y : Nat} (hx : Fn x) (hy : Fn y) (h : sc y < sc x) : double.order x y = some .gt := by
  rw [order_spec hx hy]; simp [compare, compareOfLessAndEq, show ¬ sc x < sc y by omega, show ¬ sc x = sc y by omega]

/-- Within 1/4 of zero. -/
theorem quart_in {x : Nat} (hx : Fn x) (h : Bd (sc x) (2251799813685247 * VV)) : double.order x 4598175219545276416 = some .lt ∧ double.order x 13821547256400052224 = some .gt := by
  have hV := vv_pos
  have h1 := h.1; have h2 := h.2
  exact ⟨ord_lt hx c_quart.1 (by rw [c_quart.2]; omega), ord_gt hx c_mquart.1 (by rw [c_mquart.2]; omega)⟩

/-- How near. -/
def NB : Int := VV * 577100000000000
theorem nb_def : NB = 577100000000000 * VV := by unfold NB; exact Int.mul_comm _ _

theorem toInt_val {x : Nat} (hx : Fn x) {N : Nat} (h : Bd (sc x - (N : Int) * SS) NB) :
    ((double.read x).toInt .zero = some (N : Int)) ∨ (1 ≤ N ∧ sc x < (N : Int) * SS ∧ (double.read x).toInt .zero = some ((N : Int) - 1)) := by
  have hV := vv_pos
  have hS := ss_vv
  rw [nb_def] at h
  have ht := toInt_spec hx
  have hp : pw 1074 = SS.toNat := (Int.toNat_natCast _).symm
  have hs0 : 0 < SS := ss_pos
  have h1 := h.1; have h2 := h.2
  have hsc : sc x = sgn (sg x) (rv x) := rfl
  rcases Nat.eq_zero_or_pos N with hN | hN
  · subst hN
    left
    rw [ht]
    have hr : rv x < pw 1074 := by
      have : (rv x : Int) = (sc x).natAbs := by rw [hsc, sgn_natAbs]
      rw [hp]
      simp only [Int.natCast_zero, Int.zero_mul, Int.sub_zero] at h1 h2
      omega
    rw [Nat.div_eq_of_lt hr]
    unfold sgn; split <;> simp
  · have hNS : SS ≤ (N : Int) * SS := by
      have := Int.mul_le_mul_of_nonneg_right (show (1 : Int) ≤ N by omega) (Int.le_of_lt hs0)
      omega
    have hpos : 0 < sc x := by generalize (N : Int) * SS = Q at *; omega
    have hsg : sg x = false := by
      cases hb : sg x
      · rfl
      · rw [hsc, hb] at hpos; unfold sgn at hpos; simp at hpos; omega
    have hrv : (rv x : Int) = sc x := by rw [hsc, hsg]; rfl
    rw [ht, hsg]
    have hsg2 : ∀ m : Nat, sgn false m = (m : Int) := fun m => rfl
    rw [hsg2]
    have hpS : ((pw 1074 : Nat) : Int) = SS := rfl
    rcases Int.lt_or_le (sc x) ((N : Int) * SS) with hlt | hge
    · right
      refine ⟨hN, hlt, ?_⟩
      have e : rv x / pw 1074 = N - 1 := by
        refine Nat.div_eq_of_lt_le ?_ ?_
        · have : ((N - 1 : Nat) : Int) * SS = (N : Int) * SS - SS := by
            rw [Int.natCast_sub hN, Int.sub_mul]; simp
          have h3 : (((N - 1) * pw 1074 : Nat) : Int) ≤ (rv x : Int) := by
            rw [Int.natCast_mul, hpS, this, hrv]; omega
          omega
        · have h3 : (rv x : Int) < (((N - 1 + 1) * pw 1074 : Nat) : Int) := by
            rw [Nat.sub_add_cancel hN, Int.natCast_mul, hpS, hrv]; exact hlt
          omega
      rw [e, Int.natCast_sub hN]; rfl
    · left
      have e : rv x / pw 1074 = N := by
        refine Nat.div_eq_of_lt_le ?_ ?_
        · have h3 : ((N * pw 1074 : Nat) : Int) ≤ (rv x : Int) := by rw [Int.natCast_mul, hpS, hrv]; exact hge
          omega
        · have h3 : (rv x : Int) < (((N + 1) * pw 1074 : Nat) : Int) := by
            rw [Int.natCast_mul, hpS, hrv, Int.natCast_add, Int.add_mul]; simp; omega
          omega
      rw [e]

/-- A whole number t as a word. -/
def ofi (t : Int) : Nat := double.write (.number (decide (t < 0)) t.natAbs 0)

/-- v - t, t a whole number. -/
theorem sub_whole {v : Nat} (hv : Fn v) {t : Int} (ht0 : 0 ≤ t) (ht : t ≤ 68719476736) {lo hi : Int} (h1 : lo * VV ≤ sc v - t * SS) (h2 : sc v - t * SS ≤ hi * VV) (hlo : -18014398509481984 ≤ lo) (hhi : hi ≤ 18014398509481984) :
    SubOk v (ofi t) ∧ (lo - 68719476800) * VV ≤ sc (fsub v (ofi t)) ∧ sc (fsub v (ofi t)) ≤ (hi + 68719476800) * VV := by
  have hV := vv_big
  have hS := ss_vv
  obtain ⟨g1, g2, g3⟩ := ofInt_spec t (by omega)
  have hpS : ((pw 1074 : Nat) : Int) = SS := rfl
  rw [hpS] at g2 g3
  have hab : ((t.natAbs : Nat) : Int) = t := by omega
  rw [hab] at g2 g3
  have htS : t * SS ≤ 68719476736 * SS := Int.mul_le_mul_of_nonneg_right ht (by omega)
  have htS0 : 0 ≤ t * SS := Int.mul_nonneg ht0 (by omega)
  have hu : ofi t = double.write (.number (decide (t < 0)) t.natAbs 0) := rfl
  rw [← hu] at g1 g2 g3
  have e1 : (lo - 68719476800) * VV = lo * VV - 68719476800 * VV := Int.sub_mul _ _ _
  have e2 : (hi + 68719476800) * VV = hi * VV + 68719476800 * VV := Int.add_mul _ _ _
  have hl : -18014398509481984 * VV ≤ lo * VV := Int.mul_le_mul_of_nonneg_right hlo (by omega)
  have hh : hi * VV ≤ 18014398509481984 * VV := Int.mul_le_mul_of_nonneg_right hhi (by omega)
  rw [e1, e2]
  generalize lo * VV = L at *
  generalize hi * VV = H at *
  generalize t * SS = T at *
  have hb : Bd (sc v - sc (ofi t)) (18014398509481984 * VV + 68719476738 * VV) := by unfold Bd; omega
  have hbig : 18014398509481984 * VV + 68719476738 * VV < (pw 2000 : Int) := by decide +kernel
  obtain ⟨ok, er⟩ := fsub_ok hv g1 hb hbig
  refine ⟨ok, ?_, ?_⟩ <;> · unfold Bd at er hb; omega

end Go.Proofs.Ygctai
