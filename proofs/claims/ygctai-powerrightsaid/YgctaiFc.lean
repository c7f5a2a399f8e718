/-
  Complex numbers whose parts are doubles: what sum, difference and product come to. Plain.
-/
import Derived.Test.YgctaiFloat
import Derived.Test.YgctaiCx
namespace Go.Proofs.Ygctai
open Ieee
set_option linter.unusedVariables false
set_option linter.unusedSimpArgs false

def fadd (x y : Nat) : Nat := (double.add x y).getD 0
def fsub (x y : Nat) : Nat := (double.sub x y).getD 0
def fmul (x y : Nat) : Nat := (double.mul x y).getD 0
def fdiv (x y : Nat) : Nat := (double.div x y).getD 0

/-- A pair of words. -/
structure Cw where
  re : Nat
  im : Nat
def Cw.z (a : Cw) : Cx := ⟨sc a.re, sc a.im⟩
/-- Both parts are finite. -/
def Cw.Fin (a : Cw) : Prop := Fn a.re ∧ Fn a.im
def wadd (a b : Cw) : Cw := ⟨fadd a.re b.re, fadd a.im b.im⟩
def wsub (a b : Cw) : Cw := ⟨fsub a.re b.re, fsub a.im b.im⟩
def wmul (a b : Cw) : Cw := ⟨fsub (fmul a.re b.re) (fmul a.im b.im), fadd (fmul a.re b.im) (fmul a.im b.re)⟩
def wconj (a : Cw) : Cw := ⟨a.re, fneg a.im⟩

/-- What an operation must give for the walk: that it is valid. -/
def AddOk (x y : Nat) : Prop := double.add x y = some (fadd x y) ∧ Fn (fadd x y)
def SubOk (x y : Nat) : Prop := double.sub x y = some (fsub x y) ∧ Fn (fsub x y)
def MulOk (x y : Nat) : Prop := double.mul x y = some (fmul x y) ∧ Fn (fmul x y)
def DivOk (x y : Nat) : Prop := double.div x y = some (fdiv x y) ∧ Fn (fdiv x y)

/-- |x| at most B. -/
def Bd (x B : Int) : Prop := -B ≤ x ∧ x ≤ B

theorem Bd.mono {x B C : Int} (h : Bd x B) (k : B ≤ C) : Bd x C := ⟨by have := h.1; omega, by have := h.2; omega⟩
theorem Bd.mul {x y A B : Int} (h : Bd x A) (k : Bd y B) : Bd (x * y) (A * B) := by
  have hA : 0 ≤ A := by have := h.1; have := h.2; omega
  have hB : 0 ≤ B := by have := k.1; have := k.2; omega
  have h1 : x.natAbs * y.natAbs ≤ A.natAbs * B.natAbs := Nat.mul_le_mul (by have := h.1; have := h.2; omega) (by have := k.1; have := k.2; omega)
  rw [← Int.natAbs_mul, ← Int.natAbs_mul] at h1
  have h2 : 0 ≤ A * B := Int.mul_nonneg hA hB
  exact ⟨by omega, by omega⟩

theorem fadd_ok {x y : Nat} {B : Int} (hx : Fn x) (hy : Fn y) (hb : Bd (sc x + sc y) B) (hB : B < pw 2000) : AddOk x y ∧ Bd (2 ^ 53 * (sc (fadd x y) - (sc x + sc y))) (B + 2 ^ 52) := by
  obtain ⟨h1, h2⟩ := hb
  obtain ⟨r, e, f, g1, g2⟩ := add_spec hx hy (by omega)
  have er : fadd x y = r := by unfold fadd; rw [e]; rfl
  unfold AddOk Bd
  rw [er]
  exact ⟨⟨e, f⟩, by omega, by omega⟩
theorem fsub_ok {x y : Nat} {B : Int} (hx : Fn x) (hy : Fn y) (hb : Bd (sc x - sc y) B) (hB : B < pw 2000) : SubOk x y ∧ Bd (2 ^ 53 * (sc (fsub x y) - (sc x - sc y))) (B + 2 ^ 52) := by
  obtain ⟨h1, h2⟩ := hb
  obtain ⟨r, e, f, g1, g2⟩ := sub_spec hx hy (by omega)
  have er : fsub x y = r := by unfold fsub; rw [e]; rfl
  unfold SubOk Bd
  rw [er]
  exact ⟨⟨e, f⟩, by omega, by omega⟩
theorem fmul_ok {x y : Nat} {B : Int} (hx : Fn x) (hy : Fn y) (hb : Bd (sc x * sc y) B) (hB : B < pw 3074) : MulOk x y ∧ Bd (2 ^ 53 * (sc (fmul x y) * pw 1074 - sc x * sc y)) (B + 2 ^ 52 * pw 1074) := by
  obtain ⟨h1, h2⟩ := hb
  obtain ⟨r, e, f, g1, g2⟩ := mul_spec hx hy (by omega)
  have er : fmul x y = r := by unfold fmul; rw [e]; rfl
  unfold MulOk Bd
  rw [er]
  generalize sc r * (pw 1074 : Int) = R at *
  generalize sc x * sc y = Q at *
  generalize ((pw 1074 : Nat) : Int) = S at *
  exact ⟨⟨e, f⟩, by omega, by omega⟩
theorem fdiv_ok {x y k : Nat} {B : Int} (hx : Fn x) (hy : double.read y = .number false (2 ^ 52) ((k : Int) - 52)) (hk : k ≤ 52) (hb : Bd (sc x) B) (hB : B < pw 2000) : DivOk x y ∧ Bd (2 ^ 53 * (sc (fdiv x y) * pw k - sc x)) (B + 2 ^ 52 * pw k) := by
  obtain ⟨h1, h2⟩ := hb
  obtain ⟨r, e, f, g1, g2⟩ := div_spec hx hy hk (by omega)
  have er : fdiv x y = r := by unfold fdiv; rw [e]; rfl
  unfold DivOk Bd
  rw [er]
  generalize sc r * (pw k : Int) = R at *
  generalize ((pw k : Nat) : Int) = S at *
  exact ⟨⟨e, f⟩, by omega, by omega⟩

/-- The plain arithmetic of 'two products, then their difference or sum'. -/
theorem two_prod {p q d m n S AB : Int} (hS : 0 ≤ S) (hAB : 0 ≤ AB) (h1 : Bd (2 ^ 53 * (p * S - m)) (AB + 2 ^ 52 * S)) (h2 : Bd (2 ^ 53 * (q * S - n)) (AB + 2 ^ 52 * S)) (h3 : Bd (m + n) AB)
    (h4 : Bd (2 ^ 53 * (d * S - (p * S + q * S))) ((2 * AB + 2 * S) + 2 ^ 52 * S)) : Bd (2 ^ 53 * (d * S - (m + n))) (4 * AB + 2 ^ 54 * S) := by
  unfold Bd at *
  generalize p * S = P at *
  generalize q * S = Q at *
  generalize d * S = D at *
  omega


theorem bd_div {x S C : Int} (hS : 0 < S) (h : Bd (x * S) C) : Bd x (C / S) ∧ C / S * S ≤ C := by
  obtain ⟨h1, h2⟩ := h
  refine ⟨⟨?_, ?_⟩, Int.ediv_mul_le C (by omega)⟩
  · have h3 : -x * S ≤ C := by rw [Int.neg_mul]; omega
    have := (Int.le_ediv_iff_mul_le hS).2 h3
    omega
  · exact (Int.le_ediv_iff_mul_le hS).2 h2

theorem bd_scale {x C S : Int} (hS : 0 ≤ S) (h : Bd x C) : Bd (x * S) (C * S) := by
  obtain ⟨h1, h2⟩ := h
  refine ⟨?_, Int.mul_le_mul_of_nonneg_right h2 hS⟩
  have := Int.mul_le_mul_of_nonneg_right h1 hS
  rwa [Int.neg_mul] at this

theorem s_pos : (0 : Int) < pw 1074 := by have := pw_pos 1074; omega

theorem big_ok {AB : Int} (hAB : AB ≤ pw 3000) : AB < pw 3074 ∧ (2 * AB + 2 * (pw 1074 : Int)) / (pw 1074 : Int) < pw 2000 := by
  have h1 : pw 3000 < pw 3074 := pw_strict (by decide)
  refine ⟨by omega, ?_⟩
  rw [Int.ediv_lt_iff_lt_mul s_pos]
  have h2 : pw (2000 + 1074) = pw 2000 * pw 1074 := pw_add 2000 1074
  have h3 : pw (10 + 3064) = pw 10 * pw 3064 := pw_add 10 3064
  rw [show 2000 + 1074 = 3074 from rfl] at h2
  rw [show 10 + 3064 = 3074 from rfl, show pw 10 = 1024 from rfl] at h3
  have h4 : pw 3000 ≤ pw 3064 := pw_mono (by decide)
  have h5 : pw 1074 ≤ pw 3064 := pw_mono (by decide)
  have h6 : ((pw 2000 : Nat) : Int) * ((pw 1074 : Nat) : Int) = ((pw 3074 : Nat) : Int) := by rw [h2]; simp
  rw [h6, h3]
  omega

/-- One part of a product: p and q are the two rounded products, m and n the exact ones. -/
theorem part_sub {a b c d : Nat} {AB : Int} (ha : Fn a) (hb : Fn b) (hc : Fn c) (hd : Fn d) (hAB : AB ≤ pw 3000) (h1 : Bd (sc a * sc b) AB) (h2 : Bd (sc c * sc d) AB) (h3 : Bd (sc a * sc b - sc c * sc d) AB) :
    MulOk a b ∧ MulOk c d ∧ SubOk (fmul a b) (fmul c d) ∧ Bd (2 ^ 53 * (sc (fsub (fmul a b) (fmul c d)) * pw 1074 - (sc a * sc b - sc c * sc d))) (4 * AB + 2 ^ 54 * pw 1074) := by
  obtain ⟨hk1, hk2⟩ := big_ok hAB
  have h0 : 0 ≤ AB := by have := h1.1; have := h1.2; omega
  obtain ⟨o1, e1⟩ := fmul_ok ha hb h1 hk1
  obtain ⟨o2, e2⟩ := fmul_ok hc hd h2 hk1
  have hS := s_pos
  have h4 : Bd ((sc (fmul a b) - sc (fmul c d)) * pw 1074) (2 * AB + 2 * pw 1074) := by
    rw [Int.sub_mul]
    unfold Bd at *
    generalize sc (fmul a b) * ((pw 1074 : Nat) : Int) = P at *
    generalize sc (fmul c d) * ((pw 1074 : Nat) : Int) = Q at *
    generalize sc a * sc b = M at *
    generalize sc c * sc d = N at *
    generalize ((pw 1074 : Nat) : Int) = S at *
    omega
  obtain ⟨h5, h6⟩ := bd_div hS h4
  obtain ⟨o3, e3⟩ := fsub_ok o1.2 o2.2 h5 hk2
  refine ⟨o1, o2, o3, ?_⟩
  have e4 := bd_scale (Int.le_of_lt hS) e3
  rw [Int.mul_assoc, Int.sub_mul, Int.sub_mul, Int.add_mul] at e4
  have e5 := e4.mono (C := (2 * AB + 2 * (pw 1074 : Int)) + 2 ^ 52 * (pw 1074 : Int)) (by omega)
  have := two_prod (p := sc (fmul a b)) (q := - sc (fmul c d)) (d := sc (fsub (fmul a b) (fmul c d))) (m := sc a * sc b) (n := - (sc c * sc d)) (S := pw 1074) (AB := AB) (Int.le_of_lt hS) h0 e1
    (by unfold Bd at *; rw [Int.neg_mul]; generalize sc (fmul c d) * ((pw 1074 : Nat) : Int) = Q at *; generalize sc c * sc d = N at *; generalize ((pw 1074 : Nat) : Int) = S at *; omega) (by rw [← Int.sub_eq_add_neg]; exact h3)
    (by rw [Int.neg_mul, ← Int.sub_eq_add_neg]; exact e5)
  rwa [← Int.sub_eq_add_neg] at this

theorem part_add {a b c d : Nat} {AB : Int} (ha : Fn a) (hb : Fn b) (hc : Fn c) (hd : Fn d) (hAB : AB ≤ pw 3000) (h1 : Bd (sc a * sc b) AB) (h2 : Bd (sc c * sc d) AB) (h3 : Bd (sc a * sc b + sc c * sc d) AB) :
    MulOk a b ∧ MulOk c d ∧ AddOk (fmul a b) (fmul c d) ∧ Bd (2 ^ 53 * (sc (fadd (fmul a b) (fmul c d)) * pw 1074 - (sc a * sc b + sc c * sc d))) (4 * AB + 2 ^ 54 * pw 1074) := by
  obtain ⟨hk1, hk2⟩ := big_ok hAB
  have h0 : 0 ≤ AB := by have := h1.1; have := h1.2; omega
  obtain ⟨o1, e1⟩ := fmul_ok ha hb h1 hk1
  obtain ⟨o2, e2⟩ := fmul_ok hc hd h2 hk1
  have hS := s_pos
  have h4 : Bd ((sc (fmul a b) + sc (fmul c d)) * pw 1074) (2 * AB + 2 * pw 1074) := by
    rw [Int.add_mul]
    unfold Bd at *
    generalize sc (fmul a b) * ((pw 1074 : Nat) : Int) = P at *
    generalize sc (fmul c d) * ((pw 1074 : Nat) : Int) = Q at *
    generalize sc a * sc b = M at *
    generalize sc c * sc d = N at *
    generalize ((pw 1074 : Nat) : Int) = S at *
    omega
  obtain ⟨h5, h6⟩ := bd_div hS h4
  obtain ⟨o3, e3⟩ := fadd_ok o1.2 o2.2 h5 hk2
  refine ⟨o1, o2, o3, ?_⟩
  have e4 := bd_scale (Int.le_of_lt hS) e3
  rw [Int.mul_assoc, Int.sub_mul, Int.add_mul, Int.add_mul] at e4
  have e5 := e4.mono (C := (2 * AB + 2 * (pw 1074 : Int)) + 2 ^ 52 * (pw 1074 : Int)) (by omega)
  exact two_prod (Int.le_of_lt hS) h0 e1 e2 h3 e5

/-- Which operations a product of two complex numbers does, all valid. -/
structure WMulOk (a b : Cw) : Prop where
  m1 : MulOk a.re b.re
  m2 : MulOk a.im b.im
  m3 : MulOk a.re b.im
  m4 : MulOk a.im b.re
  s : SubOk (fmul a.re b.re) (fmul a.im b.im)
  t : AddOk (fmul a.re b.im) (fmul a.im b.re)
theorem WMulOk.fin {a b : Cw} (h : WMulOk a b) : (wmul a b).Fin := ⟨h.s.2, h.t.2⟩

/-- THE PRODUCT. -/
theorem wmul_ok {a b : Cw} {A B : Int} (ha : a.Fin) (hb : b.Fin) (na : Nm a.z A) (nb : Nm b.z B) (hAB : A * B ≤ pw 3000) :
    WMulOk a b ∧ Nm (csc (2 ^ 53) (csub (csc (pw 1074) (wmul a b).z) (cmul a.z b.z))) (8 * (A * B) + 2 ^ 55 * pw 1074) := by
  have nm := na.mul nb
  have r1 := na.re; have r2 := na.im; have r3 := nb.re; have r4 := nb.im
  have b1 : Bd (sc a.re * sc b.re) (A * B) := Bd.mul r1 r3
  have b2 : Bd (sc a.im * sc b.im) (A * B) := Bd.mul r2 r4
  have b3 : Bd (sc a.re * sc b.im) (A * B) := Bd.mul r1 r4
  have b4 : Bd (sc a.im * sc b.re) (A * B) := Bd.mul r2 r3
  obtain ⟨o1, o2, o3, e1⟩ := part_sub ha.1 hb.1 ha.2 hb.2 hAB b1 b2 nm.re
  obtain ⟨o4, o5, o6, e2⟩ := part_add ha.1 hb.2 ha.2 hb.1 hAB b3 b4 nm.im
  refine ⟨⟨o1, o2, o4, o5, o3, o6⟩, ?_⟩
  refine (nm_comp (a := 4 * (A * B) + 2 ^ 54 * pw 1074) (b := 4 * (A * B) + 2 ^ 54 * pw 1074) ?_ ?_).mono (by omega)
  · have : (csc (2 ^ 53) (csub (csc (pw 1074) (wmul a b).z) (cmul a.z b.z))).re = 2 ^ 53 * (sc (fsub (fmul a.re b.re) (fmul a.im b.im)) * pw 1074 - (sc a.re * sc b.re - sc a.im * sc b.im)) := by
      simp only [csc, csub, cmul, wmul, Cw.z]; rw [Int.mul_comm (pw 1074 : Int)]
    rw [this]; exact e1
  · have : (csc (2 ^ 53) (csub (csc (pw 1074) (wmul a b).z) (cmul a.z b.z))).im = 2 ^ 53 * (sc (fadd (fmul a.re b.im) (fmul a.im b.re)) * pw 1074 - (sc a.re * sc b.im + sc a.im * sc b.re)) := by
      simp only [csc, csub, cmul, wmul, Cw.z]; rw [Int.mul_comm (pw 1074 : Int)]
    rw [this]; exact e2

structure WAddOk (a b : Cw) : Prop where
  r : AddOk a.re b.re
  i : AddOk a.im b.im
structure WSubOk (a b : Cw) : Prop where
  r : SubOk a.re b.re
  i : SubOk a.im b.im
theorem WAddOk.fin {a b : Cw} (h : WAddOk a b) : (wadd a b).Fin := ⟨h.r.2, h.i.2⟩
theorem WSubOk.fin {a b : Cw} (h : WSubOk a b) : (wsub a b).Fin := ⟨h.r.2, h.i.2⟩

/-- THE SUM. -/
theorem wadd_ok {a b : Cw} {C : Int} (ha : a.Fin) (hb : b.Fin) (n : Nm (cadd a.z b.z) C) (hC : C < pw 2000) :
    WAddOk a b ∧ Nm (csc (2 ^ 53) (csub (wadd a b).z (cadd a.z b.z))) (2 * C + 2 ^ 53) := by
  obtain ⟨o1, e1⟩ := fadd_ok ha.1 hb.1 n.re hC
  obtain ⟨o2, e2⟩ := fadd_ok ha.2 hb.2 n.im hC
  exact ⟨⟨o1, o2⟩, (nm_comp (z := csc (2 ^ 53) (csub (wadd a b).z (cadd a.z b.z))) (a := C + 2 ^ 52) (b := C + 2 ^ 52) e1 e2).mono (by omega)⟩
theorem wsub_ok {a b : Cw} {C : Int} (ha : a.Fin) (hb : b.Fin) (n : Nm (csub a.z b.z) C) (hC : C < pw 2000) :
    WSubOk a b ∧ Nm (csc (2 ^ 53) (csub (wsub a b).z (csub a.z b.z))) (2 * C + 2 ^ 53) := by
  obtain ⟨o1, e1⟩ := fsub_ok ha.1 hb.1 n.re hC
  obtain ⟨o2, e2⟩ := fsub_ok ha.2 hb.2 n.im hC
  exact ⟨⟨o1, o2⟩, (nm_comp (z := csc (2 ^ 53) (csub (wsub a b).z (csub a.z b.z))) (a := C + 2 ^ 52) (b := C + 2 ^ 52) e1 e2).mono (by omega)⟩
theorem wconj_ok {a : Cw} (ha : a.Fin) : (wconj a).Fin ∧ (wconj a).z = cconj a.z := by
  obtain ⟨h1, h2, _⟩ := fneg_spec ha.2
  exact ⟨⟨ha.1, h1⟩, cx_ext rfl h2⟩

end Go.Proofs.Ygctai
