/-
  One butterfly: how the error grows. Plain.
-/
import Derived.Test.YgctaiRoots
namespace Go.Proofs.Ygctai
set_option linter.unusedVariables false
set_option linter.unusedSimpArgs false

/-- 2^-53, in units: half of the last place of one. -/
def VV : Int := (pw 1021 : Nat)
theorem vv_pos : 0 < VV := by have := pw_pos 1021; unfold VV; omega
theorem ss_vv : SS = 2 ^ 53 * VV := by
  have h := pw_add 53 1021
  rw [show 53 + 1021 = 1074 from rfl] at h
  unfold SS VV
  rw [h]
  have : pw 53 = 2 ^ 53 := rfl
  rw [this]; simp
theorem vv_big : 2 ^ 60 < VV := by decide +kernel

/-- The word a stands for Z, but for b times 2^-53. -/
structure Apx (a : Cw) (Z : Cx) (b : Int) : Prop where
  fin : a.Fin
  err : Nm (csub a.z Z) (VV * b)

theorem Apx.mono {a : Cw} {Z : Cx} {b c : Int} (h : Apx a Z b) (k : b ≤ c) : Apx a Z c := ⟨h.fin, h.err.mono (Int.mul_le_mul_of_nonneg_left k (Int.le_of_lt vv_pos))⟩
theorem Apx.nm {a : Cw} {Z : Cx} {b M : Int} (h : Apx a Z b) (k : Nm Z M) : Nm a.z (VV * b + M) := by
  have := h.err.add k
  have e : cadd (csub a.z Z) Z = a.z := cx_ext (by simp [cadd, csub]) (by simp [cadd, csub])
  rwa [e] at this

theorem mul_alg (v T W F : Cx) : csub (cmul v T) (cmul W F) = cadd (cadd (cmul (csub v W) F) (cmul W (csub T F))) (cmul (csub v W) (csub T F)) := by
  refine cx_ext ?_ ?_ <;>
  · simp only [csub, cmul, cadd, Int.mul_add, Int.add_mul, Int.mul_sub, Int.sub_mul, Int.mul_assoc, Int.mul_comm, Int.mul_left_comm]
    omega

theorem chain3 (s : Int) (p x y w : Cx) : csc s (csub p w) = cadd (cadd (csub (csc s p) x) (csub x y)) (csub y (csc s w)) := by
  refine cx_ext ?_ ?_ <;>
  · simp only [csub, cadd, csc, Int.mul_sub]
    omega

/-- A PRODUCT: v stands for W (of size A), T for F (of size C); W1 is W*F but for om units. -/
theorem apx_mul {v T : Cw} {W F W1 : Cx} {b d A C om : Int} (hv : Apx v W b) (hT : Apx T F d) (hW : Nm W (SS * A)) (hF : Nm F (SS * C)) (hW1 : Nm (csub (cmul W F) (csc SS W1)) (SS * om))
    (hA : 1 ≤ A) (hC : 1 ≤ C) (hA2 : A ≤ 2 ^ 100) (hC2 : C ≤ 2 ^ 100) (hb : b ≤ 2 ^ 53 * A) (hd : d ≤ 2 ^ 53 * C) (hb0 : 0 ≤ b) (hd0 : 0 ≤ d) (hbd : b * d ≤ 2 ^ 53 * (A * C)) (hom : om ≤ VV) :
    WMulOk v T ∧ Apx (wmul v T) W1 (b * C + A * d + 34 * (A * C) + 2) := by
  have hS := ss_pos
  have hV := vv_pos
  have hVb := vv_big
  have hAC : 1 ≤ A * C := by have := Int.mul_le_mul hA hC (by decide) (by omega); simpa using this
  -- sizes
  have e1 : VV * b ≤ SS * A := by rw [ss_vv, Int.mul_comm (2 ^ 53), Int.mul_assoc]; exact Int.mul_le_mul_of_nonneg_left hb (Int.le_of_lt hV)
  have e2 : VV * d ≤ SS * C := by rw [ss_vv, Int.mul_comm (2 ^ 53), Int.mul_assoc]; exact Int.mul_le_mul_of_nonneg_left hd (Int.le_of_lt hV)
  have nv : Nm v.z (2 * (SS * A)) := (hv.nm hW).mono (by omega)
  have nT : Nm T.z (2 * (SS * C)) := (hT.nm hF).mono (by omega)
  have eAC : 2 * (SS * A) * (2 * (SS * C)) = 4 * (SS * SS * (A * C)) := by
    rw [show (4 : Int) = 2 * 2 from rfl]
    simp only [Int.mul_assoc, Int.mul_comm, Int.mul_left_comm]
  have hbig : 2 * (SS * A) * (2 * (SS * C)) ≤ pw 3000 := by
    rw [eAC]
    have h1 : A * C ≤ 2 ^ 100 * 2 ^ 100 := Int.mul_le_mul hA2 hC2 (by omega) (by decide)
    have h2 : SS * SS * (A * C) ≤ SS * SS * (2 ^ 100 * 2 ^ 100) := Int.mul_le_mul_of_nonneg_left h1 (Int.mul_nonneg (Int.le_of_lt hS) (Int.le_of_lt hS))
    have h3 : 4 * (SS * SS * (2 ^ 100 * 2 ^ 100)) ≤ (pw 3000 : Int) := by decide +kernel
    omega
  obtain ⟨ok, er⟩ := wmul_ok hv.fin hT.fin nv nT hbig
  refine ⟨ok, ok.fin, ?_⟩
  -- S p - v T
  have er2 : Nm (csub (csc SS (wmul v T).z) (cmul v.z T.z)) (32 * (SS * VV * (A * C)) + 4 * SS) := by
    refine Nm.unscale (k := 2 ^ 53) (er.mono ?_) (by decide)
    rw [eAC]
    have e3 : (2 : Int) ^ 53 * (32 * (SS * VV * (A * C)) + 4 * SS) = 32 * (SS * (2 ^ 53 * VV) * (A * C)) + 2 ^ 55 * SS := by
      have a1 : (2 : Int) ^ 53 * (32 * (SS * VV * (A * C))) = 32 * (SS * (2 ^ 53 * VV) * (A * C)) := by simp only [Int.mul_assoc, Int.mul_comm, Int.mul_left_comm]
      have a2 : (2 : Int) ^ 53 * (4 * SS) = 2 ^ 55 * SS := by omega
      rw [Int.mul_add, a1, a2]
    rw [e3, ← ss_vv]
    have : (pw 1074 : Int) = SS := rfl
    rw [this]
    omega
  -- v T - W F
  have er3 : Nm (csub (cmul v.z T.z) (cmul W F)) (SS * (VV * (b * C + A * d + A * C))) := by
    rw [mul_alg]
    refine (((hv.err.mul hF).add (hW.mul hT.err)).add (hv.err.mul hT.err)).mono ?_
    have h1 : VV * b * (VV * d) ≤ SS * (VV * (A * C)) := by
      have e4 : VV * b * (VV * d) = VV * (VV * (b * d)) := by simp only [Int.mul_assoc, Int.mul_comm, Int.mul_left_comm]
      have e5 : SS * (VV * (A * C)) = VV * (VV * (2 ^ 53 * (A * C))) := by rw [ss_vv]; simp only [Int.mul_assoc, Int.mul_comm, Int.mul_left_comm]
      rw [e4, e5]
      exact Int.mul_le_mul_of_nonneg_left (Int.mul_le_mul_of_nonneg_left hbd (Int.le_of_lt hV)) (Int.le_of_lt hV)
    have e6 : SS * (VV * (b * C + A * d + A * C)) = VV * b * (SS * C) + SS * A * (VV * d) + SS * (VV * (A * C)) := by
      simp only [Int.mul_add, Int.mul_assoc, Int.mul_comm, Int.mul_left_comm]
    omega
  refine Nm.unscale (k := SS) ?_ hS
  rw [chain3 SS (wmul v T).z (cmul v.z T.z) (cmul W F) W1]
  refine ((er2.add er3).add hW1).mono ?_
  have e7 : SS * (VV * (b * C + A * d + 34 * (A * C) + 2)) = SS * (VV * (b * C + A * d + A * C)) + 33 * (SS * VV * (A * C)) + 2 * (SS * VV) := by
    have : b * C + A * d + 34 * (A * C) + 2 = (b * C + A * d + A * C) + 33 * (A * C) + 2 := by omega
    rw [this, Int.mul_add, Int.mul_add, Int.mul_add, Int.mul_add, Int.mul_left_comm VV 33, Int.mul_left_comm SS 33, ← Int.mul_assoc SS VV (A * C), Int.mul_comm VV 2, Int.mul_left_comm SS 2]
  rw [e7]
  have h8 : SS * om ≤ SS * VV := Int.mul_le_mul_of_nonneg_left hom (Int.le_of_lt hS)
  have h9 : SS * 4 ≤ SS * VV := Int.mul_le_mul_of_nonneg_left (by omega) (Int.le_of_lt hS)
  have h10 : 0 ≤ SS * VV * (A * C) := Int.mul_nonneg (Int.mul_nonneg (Int.le_of_lt hS) (Int.le_of_lt hV)) (by omega)
  omega

theorem sum_alg (r x y X Y : Cx) : csub r (cadd X Y) = cadd (csub r (cadd x y)) (cadd (csub x X) (csub y Y)) := by
  refine cx_ext ?_ ?_ <;> · simp only [csub, cadd]; omega
theorem dif_alg (r x y X Y : Cx) : csub r (csub X Y) = cadd (csub r (csub x y)) (csub (csub x X) (csub y Y)) := by
  refine cx_ext ?_ ?_ <;> · simp only [csub, cadd]; omega

theorem small_ok {A b c : Int} (hA : A ≤ 2 ^ 100) (hb : b ≤ 2 ^ 53 * A) (hc : c ≤ 2 ^ 53 * A) (hA1 : 1 ≤ A) : (VV * b + SS * A) + (VV * c + SS * A) ≤ 4 * (SS * A) ∧ 4 * (SS * A) < pw 2000 := by
  have hV := vv_pos
  have e1 : VV * b ≤ SS * A := by rw [ss_vv, Int.mul_comm (2 ^ 53), Int.mul_assoc]; exact Int.mul_le_mul_of_nonneg_left hb (Int.le_of_lt hV)
  have e2 : VV * c ≤ SS * A := by rw [ss_vv, Int.mul_comm (2 ^ 53), Int.mul_assoc]; exact Int.mul_le_mul_of_nonneg_left hc (Int.le_of_lt hV)
  have h1 : SS * A ≤ SS * 2 ^ 100 := Int.mul_le_mul_of_nonneg_left hA (Int.le_of_lt ss_pos)
  have h2 : 4 * (SS * 2 ^ 100) < (pw 2000 : Int) := by decide +kernel
  exact ⟨by omega, by omega⟩

theorem round_ok {z : Cx} {A : Int} (hA : 1 ≤ A) (h : Nm (csc (2 ^ 53) z) (2 * (4 * (SS * A)) + 2 ^ 53)) : Nm z (VV * (8 * A + 1)) := by
  refine Nm.unscale (k := 2 ^ 53) (h.mono ?_) (by decide)
  have hV := vv_big
  have e : (2 : Int) ^ 53 * (VV * (8 * A + 1)) = 8 * (2 ^ 53 * VV * A) + 2 ^ 53 * VV := by
    rw [Int.mul_add, Int.mul_add, Int.mul_one, Int.mul_left_comm VV, Int.mul_left_comm (2 ^ 53) 8, Int.mul_assoc]
  rw [e, ← ss_vv]
  have : SS = 2 ^ 53 * VV := ss_vv
  omega

/-- A SUM and A DIFFERENCE. -/
theorem apx_add {u p : Cw} {U P : Cx} {b c A : Int} (hu : Apx u U b) (hp : Apx p P c) (hU : Nm U (SS * A)) (hP : Nm P (SS * A)) (hA : 1 ≤ A) (hA2 : A ≤ 2 ^ 100) (hb : b ≤ 2 ^ 53 * A) (hc : c ≤ 2 ^ 53 * A) :
    WAddOk u p ∧ Apx (wadd u p) (cadd U P) (b + c + 8 * A + 1) := by
  obtain ⟨k1, k2⟩ := small_ok hA2 hb hc hA
  have n1 := ((hu.nm hU).add (hp.nm hP)).mono k1
  obtain ⟨ok, er⟩ := wadd_ok hu.fin hp.fin n1 k2
  refine ⟨ok, ok.fin, ?_⟩
  rw [sum_alg (wadd u p).z u.z p.z U P]
  refine ((round_ok hA er).add (hu.err.add hp.err)).mono ?_
  simp only [Int.mul_add]; omega
theorem apx_sub {u p : Cw} {U P : Cx} {b c A : Int} (hu : Apx u U b) (hp : Apx p P c) (hU : Nm U (SS * A)) (hP : Nm P (SS * A)) (hA : 1 ≤ A) (hA2 : A ≤ 2 ^ 100) (hb : b ≤ 2 ^ 53 * A) (hc : c ≤ 2 ^ 53 * A) :
    WSubOk u p ∧ Apx (wsub u p) (csub U P) (b + c + 8 * A + 1) := by
  obtain ⟨k1, k2⟩ := small_ok hA2 hb hc hA
  have n1 := ((hu.nm hU).sub (hp.nm hP)).mono k1
  obtain ⟨ok, er⟩ := wsub_ok hu.fin hp.fin n1 k2
  refine ⟨ok, ok.fin, ?_⟩
  rw [dif_alg (wsub u p).z u.z p.z U P]
  refine ((round_ok hA er).add (hu.err.sub hp.err)).mono ?_
  simp only [Int.mul_add]; omega

end Go.Proofs.Ygctai
