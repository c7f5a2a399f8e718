/-
  Pairs of whole numbers as complex numbers; their size, without a root. Plain.
-/
namespace Go.Proofs.Ygctai
set_option linter.unusedVariables false
set_option linter.unusedSimpArgs false

structure Cx where
  re : Int
  im : Int

def cadd (a b : Cx) : Cx := ⟨a.re + b.re, a.im + b.im⟩
def csub (a b : Cx) : Cx := ⟨a.re - b.re, a.im - b.im⟩
def cneg (a : Cx) : Cx := ⟨-a.re, -a.im⟩
def cmul (a b : Cx) : Cx := ⟨a.re * b.re - a.im * b.im, a.re * b.im + a.im * b.re⟩
def csc (k : Int) (a : Cx) : Cx := ⟨k * a.re, k * a.im⟩
def czero : Cx := ⟨0, 0⟩
/-- The conjugate. -/
def cconj (a : Cx) : Cx := ⟨a.re, -a.im⟩

theorem cx_ext {a b : Cx} (h1 : a.re = b.re) (h2 : a.im = b.im) : a = b := by
  cases a; cases b; simp at h1 h2; rw [h1, h2]

theorem sq_nonneg (x : Int) : 0 ≤ x * x := by
  rcases Int.le_total 0 x with h | h
  · exact Int.mul_nonneg h h
  · have := Int.mul_nonneg (a := -x) (b := -x) (by omega) (by omega)
    rwa [Int.neg_mul_neg] at this

theorem sq_lt {x y : Int} (hy : 0 ≤ y) (h : y < x) : y * y < x * x := by
  have h1 : y * y ≤ y * x := Int.mul_le_mul_of_nonneg_left (by omega) hy
  have h2 : y * x < x * x := Int.mul_lt_mul_of_pos_right h (by omega)
  omega
theorem sq_le {x y : Int} (hy : 0 ≤ y) (h : x * x ≤ y * y) : -y ≤ x ∧ x ≤ y := by
  constructor
  · rcases Int.lt_or_le x (-y) with hx | hx
    · have h1 : y * y < (-x) * (-x) := sq_lt hy (by omega)
      rw [Int.neg_mul_neg] at h1; omega
    · exact hx
  · rcases Int.lt_or_le y x with hx | hx
    · have h1 : y * y < x * x := sq_lt hy hx
      omega
    · exact hx

theorem sq_mono {x y : Int} (hx : 0 ≤ x) (h : x ≤ y) : x * x ≤ y * y := Int.mul_le_mul h h hx (by omega)

/-- z is of size at most E. -/
def Nm (z : Cx) (E : Int) : Prop := 0 ≤ E ∧ z.re * z.re + z.im * z.im ≤ E * E

theorem Nm.nonneg {z : Cx} {E : Int} (h : Nm z E) : 0 ≤ E := h.1
theorem Nm.mono {z : Cx} {E F : Int} (h : Nm z E) (hF : E ≤ F) : Nm z F := ⟨by have := h.1; omega, Int.le_trans h.2 (sq_mono h.1 hF)⟩
theorem nm_zero : Nm czero 0 := ⟨by decide, by decide⟩
theorem Nm.neg {z : Cx} {E : Int} (h : Nm z E) : Nm (cneg z) E := ⟨h.1, by simp only [cneg, Int.neg_mul_neg]; exact h.2⟩
theorem Nm.conj {z : Cx} {E : Int} (h : Nm z E) : Nm (cconj z) E := ⟨h.1, by simp only [cconj, Int.neg_mul_neg]; exact h.2⟩
theorem Nm.re {z : Cx} {E : Int} (h : Nm z E) : -E ≤ z.re ∧ z.re ≤ E := sq_le h.1 (by have := h.2; have := sq_nonneg z.im; omega)
theorem Nm.im {z : Cx} {E : Int} (h : Nm z E) : -E ≤ z.im ∧ z.im ≤ E := sq_le h.1 (by have := h.2; have := sq_nonneg z.re; omega)

theorem cauchy (a b c d : Int) : (a * c + b * d) * (a * c + b * d) ≤ (a * a + b * b) * (c * c + d * d) := by
  have h := sq_nonneg (a * d - b * c)
  have e : (a * a + b * b) * (c * c + d * d) = (a * c + b * d) * (a * c + b * d) + (a * d - b * c) * (a * d - b * c) := by
    simp only [Int.mul_add, Int.add_mul, Int.mul_sub, Int.sub_mul, Int.mul_assoc, Int.mul_comm, Int.mul_left_comm]
    omega
  omega

theorem Nm.add {z w : Cx} {E F : Int} (h : Nm z E) (k : Nm w F) : Nm (cadd z w) (E + F) := by
  refine ⟨by have := h.1; have := k.1; omega, ?_⟩
  have hEF : 0 ≤ E * F := Int.mul_nonneg h.1 k.1
  have h1 := cauchy z.re z.im w.re w.im
  have h2 : (z.re * z.re + z.im * z.im) * (w.re * w.re + w.im * w.im) ≤ (E * E) * (F * F) :=
    Int.mul_le_mul h.2 k.2 (by have := sq_nonneg w.re; have := sq_nonneg w.im; omega) (sq_nonneg E)
  have h3 : (E * E) * (F * F) = (E * F) * (E * F) := by simp only [Int.mul_assoc, Int.mul_comm, Int.mul_left_comm]
  have h4 := (sq_le (x := z.re * w.re + z.im * w.im) hEF (by rw [← h3]; exact Int.le_trans h1 h2)).2
  have h5 := h.2
  have h6 := k.2
  simp only [cadd, Int.mul_add, Int.add_mul]
  rw [Int.mul_comm w.re z.re, Int.mul_comm w.im z.im, Int.mul_comm F E]
  omega

theorem Nm.sub {z w : Cx} {E F : Int} (h : Nm z E) (k : Nm w F) : Nm (csub z w) (E + F) := by
  have := h.add k.neg
  have e : cadd z (cneg w) = csub z w := cx_ext (by simp [cadd, cneg, csub]; omega) (by simp [cadd, cneg, csub]; omega)
  rwa [e] at this

theorem Nm.mul {z w : Cx} {E F : Int} (h : Nm z E) (k : Nm w F) : Nm (cmul z w) (E * F) := by
  refine ⟨Int.mul_nonneg h.1 k.1, ?_⟩
  have e : (cmul z w).re * (cmul z w).re + (cmul z w).im * (cmul z w).im = (z.re * z.re + z.im * z.im) * (w.re * w.re + w.im * w.im) := by
    simp only [cmul, Int.mul_add, Int.add_mul, Int.mul_sub, Int.sub_mul, Int.mul_assoc, Int.mul_comm, Int.mul_left_comm]
    omega
  rw [e]
  have h2 : (z.re * z.re + z.im * z.im) * (w.re * w.re + w.im * w.im) ≤ (E * E) * (F * F) :=
    Int.mul_le_mul h.2 k.2 (by have := sq_nonneg w.re; have := sq_nonneg w.im; omega) (sq_nonneg E)
  have h3 : (E * E) * (F * F) = (E * F) * (E * F) := by simp only [Int.mul_assoc, Int.mul_comm, Int.mul_left_comm]
  omega

theorem Nm.scale {z : Cx} {E k : Int} (h : Nm z E) (hk : 0 ≤ k) : Nm (csc k z) (k * E) := by
  refine ⟨Int.mul_nonneg hk h.1, ?_⟩
  have e : (csc k z).re * (csc k z).re + (csc k z).im * (csc k z).im = (k * k) * (z.re * z.re + z.im * z.im) := by
    simp only [csc, Int.mul_add, Int.mul_assoc, Int.mul_comm, Int.mul_left_comm]
  have e2 : k * E * (k * E) = (k * k) * (E * E) := by simp only [Int.mul_assoc, Int.mul_comm, Int.mul_left_comm]
  rw [e, e2]
  exact Int.mul_le_mul_of_nonneg_left h.2 (sq_nonneg k)

theorem Nm.unscale {z : Cx} {E k : Int} (h : Nm (csc k z) (k * E)) (hk : 0 < k) : Nm z E := by
  have hE : 0 ≤ E := Int.le_of_mul_le_mul_left (by rw [Int.mul_zero]; exact h.1) hk
  refine ⟨hE, ?_⟩
  have e : (csc k z).re * (csc k z).re + (csc k z).im * (csc k z).im = (k * k) * (z.re * z.re + z.im * z.im) := by
    simp only [csc, Int.mul_add, Int.mul_assoc, Int.mul_comm, Int.mul_left_comm]
  have e2 : k * E * (k * E) = (k * k) * (E * E) := by simp only [Int.mul_assoc, Int.mul_comm, Int.mul_left_comm]
  have h2 := h.2
  rw [e, e2] at h2
  exact Int.le_of_mul_le_mul_left h2 (Int.mul_pos hk hk)

theorem nm_comp {z : Cx} {a b : Int} (h1 : -a ≤ z.re ∧ z.re ≤ a) (h2 : -b ≤ z.im ∧ z.im ≤ b) : Nm z (a + b) := by
  have ha : 0 ≤ a := by omega
  have hb : 0 ≤ b := by omega
  refine ⟨by omega, ?_⟩
  have e1 : z.re * z.re ≤ a * a := by
    rcases Int.le_total 0 z.re with h | h
    · exact sq_mono h h1.2
    · have := sq_mono (x := -z.re) (by omega) (show -z.re ≤ a by omega)
      rwa [Int.neg_mul_neg] at this
  have e2 : z.im * z.im ≤ b * b := by
    rcases Int.le_total 0 z.im with h | h
    · exact sq_mono h h2.2
    · have := sq_mono (x := -z.im) (by omega) (show -z.im ≤ b by omega)
      rwa [Int.neg_mul_neg] at this
  have e3 : 0 ≤ a * b := Int.mul_nonneg ha hb
  simp only [Int.mul_add, Int.add_mul]
  rw [Int.mul_comm b a]
  omega

end Go.Proofs.Ygctai
