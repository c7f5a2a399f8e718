/-
  The roots of unity of order 1024 as pairs of whole numbers of units of 2^-1074, each part cut towards zero. Plain.
-/
import Derived.Test.YgctaiFc
namespace Go.Proofs.Ygctai
set_option linter.unusedVariables false
set_option linter.unusedSimpArgs false

/-- exp(-2 pi i / 1024), its parts in units of 2^-1074, cut towards zero. -/
def R1 : Cx := ⟨202398443142091216291100463686775112850411550513079301709064744066977053468860056064123113157428045153999110154872002490668895646037481080235958840411684403315071200097691176892786119812568187604197819812181208755146725952495059788850301293864774658820691699547327675249520488173190936974097832605001777649975960389506228276,
  -1241916879022602863495414537607744304351405080490233426244518340963990690764053633512666446087640161667637372907412169980499823429631991993603340192953848590713001210896147122782648817865207854640648623925997142811085102152485270201593800747841656598418688064668483640510803970179376781925696972939588943304836486231598026⟩
/-- One, in units. -/
def SS : Int := (pw 1074 : Nat)
/-- z / SS, cut towards zero. -/
def ctr (z : Cx) : Cx := ⟨z.re.tdiv SS, z.im.tdiv SS⟩
/-- The powers of R1. -/
def R : Nat → Cx
  | 0 => ⟨SS, 0⟩
  | j + 1 => ctr (cmul (R j) R1)

theorem r512 : (R 512).re + SS = 768 ∧ (R 512).im = -385 := by decide +kernel

theorem ss_pos : 0 < SS := s_pos
theorem ss_eq : SS = (pw 1074 : Nat) := rfl

theorem nm_R1 : Nm R1 SS := by
  refine ⟨Int.le_of_lt ss_pos, ?_⟩
  decide +kernel

/-! ### cutting -/
theorem tdiv_part (x : Int) : Bd (SS * x.tdiv SS - x) SS ∧ (SS * x.tdiv SS) * (SS * x.tdiv SS) ≤ x * x := by
  have hS := ss_pos
  have h1 := Int.mul_tdiv_add_tmod x SS
  have h2 : x.tmod SS < SS := Int.tmod_lt_of_pos x hS
  rcases Int.le_total 0 x with hx | hx
  · have h3 : 0 ≤ x.tmod SS := Int.tmod_nonneg _ hx
    have h4 : 0 ≤ x.tdiv SS := Int.tdiv_nonneg hx (Int.le_of_lt hS)
    have h5 : 0 ≤ SS * x.tdiv SS := Int.mul_nonneg (Int.le_of_lt hS) h4
    generalize SS * x.tdiv SS = q at *
    exact ⟨⟨by omega, by omega⟩, sq_mono h5 (by omega)⟩
  · have e1 : (-x).tdiv SS = - x.tdiv SS := Int.neg_tdiv x SS
    have h3 : 0 ≤ (-x).tmod SS := Int.tmod_nonneg _ (by omega)
    have h3' : (-x).tmod SS < SS := Int.tmod_lt_of_pos _ hS
    have h1' := Int.mul_tdiv_add_tmod (-x) SS
    have h4 : 0 ≤ (-x).tdiv SS := Int.tdiv_nonneg (by omega) (Int.le_of_lt hS)
    have h5 : 0 ≤ SS * (-x).tdiv SS := Int.mul_nonneg (Int.le_of_lt hS) h4
    have e2 : SS * x.tdiv SS = -(SS * (-x).tdiv SS) := by rw [e1, Int.mul_neg]; omega
    rw [e2, Int.neg_mul_neg]
    generalize SS * (-x).tdiv SS = q at *
    refine ⟨⟨by omega, by omega⟩, ?_⟩
    have := sq_mono h5 (show q ≤ -x by omega)
    rwa [Int.neg_mul_neg] at this

theorem ctr_err (z : Cx) : Nm (csub (csc SS (ctr z)) z) (2 * SS) := by
  refine (nm_comp (z := csub (csc SS (ctr z)) z) (tdiv_part z.re).1 (tdiv_part z.im).1).mono ?_
  have := ss_pos; omega

theorem ctr_nm {z : Cx} {E : Int} (h : Nm z (SS * E)) : Nm (ctr z) E := by
  refine Nm.unscale (k := SS) ⟨h.1, ?_⟩ ss_pos
  have h1 := (tdiv_part z.re).2
  have h2 := (tdiv_part z.im).2
  have h3 := h.2
  show SS * z.re.tdiv SS * (SS * z.re.tdiv SS) + SS * z.im.tdiv SS * (SS * z.im.tdiv SS) ≤ _
  omega

theorem nm_R (j : Nat) : Nm (R j) SS := by
  induction j with
  | zero => exact ⟨Int.le_of_lt ss_pos, by simp [R]⟩
  | succ j ih => exact ctr_nm (ih.mul nm_R1)

/-! ### products -/
theorem cmul_R0 (z : Cx) : cmul z (R 0) = csc SS z := cx_ext (by simp [cmul, csc, R]; exact Int.mul_comm _ _) (by simp [cmul, csc, R]; exact Int.mul_comm _ _)
theorem csub_self (z : Cx) : csub z z = czero := cx_ext (by simp [csub, czero]) (by simp [csub, czero])

theorem R_mul_alg (S : Int) (a b ab b1 ab1 r : Cx) : csc S (csub (cmul a b1) (csc S ab1)) =
    cadd (cadd (cmul (csub (cmul a b) (csc S ab)) r) (cmul a (csub (csc S b1) (cmul b r)))) (cneg (csc S (csub (csc S ab1) (cmul ab r)))) := by
  refine cx_ext ?_ ?_ <;>
  · simp only [csc, csub, cmul, cadd, cneg, Int.mul_add, Int.add_mul, Int.mul_sub, Int.sub_mul, Int.neg_add, Int.neg_sub, Int.mul_neg, Int.neg_mul, Int.mul_assoc, Int.mul_comm, Int.mul_left_comm]
    omega

theorem R_mul (a b : Nat) : Nm (csub (cmul (R a) (R b)) (csc SS (R (a + b)))) (4 * b * SS) := by
  have hS := ss_pos
  induction b with
  | zero =>
    rw [cmul_R0, Nat.add_zero, csub_self]
    exact nm_zero.mono (by simp)
  | succ b ih =>
    refine Nm.unscale (k := SS) ?_ hS
    rw [R_mul_alg SS (R a) (R b) (R (a + b)) (R (b + 1)) (R (a + (b + 1))) R1]
    have h1 := ih.mul nm_R1
    have h2 := (nm_R a).mul (ctr_err (cmul (R b) R1))
    have h3 := ((ctr_err (cmul (R (a + b)) R1)).scale (Int.le_of_lt hS)).neg
    refine ((h1.add h2).add h3).mono ?_
    have e1 : SS * (4 * ((b + 1 : Nat) : Int) * SS) = 4 * (b : Int) * SS * SS + 4 * (SS * SS) := by
      rw [Int.natCast_add, Int.natCast_one, Int.mul_add, Int.mul_one, Int.add_mul, Int.mul_add, Int.mul_comm SS (4 * (b : Int) * SS), Int.mul_left_comm SS 4]
    have e2 : SS * (2 * SS) = 2 * (SS * SS) := Int.mul_left_comm _ _ _
    rw [e1, e2]
    omega

/-- The powers, of whatever index. -/
def E (m : Nat) : Cx := if m % 1024 < 512 then R (m % 1024) else cneg (R (m % 1024 - 512))

theorem E_zero : E 0 = ⟨SS, 0⟩ := rfl
theorem E_mod (m : Nat) : E (m % 1024) = E m := by unfold E; rw [Nat.mod_mod]
theorem E_congr {m n : Nat} (h : m % 1024 = n % 1024) : E m = E n := by rw [← E_mod m, ← E_mod n, h]
theorem cneg_cneg (z : Cx) : cneg (cneg z) = z := cx_ext (by simp [cneg]) (by simp [cneg])
theorem E_half (m : Nat) : E (m + 512) = cneg (E m) := by
  unfold E
  rcases Nat.lt_or_ge (m % 1024) 512 with h | h
  · rw [if_neg (by omega), if_pos h, show (m + 512) % 1024 - 512 = m % 1024 by omega]
  · rw [if_pos (by omega), if_neg (by omega), cneg_cneg, show (m + 512) % 1024 = m % 1024 - 512 by omega]
theorem nm_E (m : Nat) : Nm (E m) SS := by
  unfold E
  split
  · exact nm_R _
  · exact (nm_R _).neg

/-- 'R 512' is minus one but for some units. -/
theorem nm_r512 : Nm (cadd (R 512) ⟨SS, 0⟩) 2048 := by
  obtain ⟨h1, h2⟩ := r512
  refine (nm_comp (z := cadd (R 512) ⟨SS, 0⟩) (a := 768) (b := 768) ?_ ?_).mono (by decide)
  · simp only [cadd, h1]; omega
  · simp only [cadd, h2]; omega

theorem half_alg (S : Int) (c r h : Cx) : csc S (cadd h c) = csub (cmul c (cadd r ⟨S, 0⟩)) (csub (cmul c r) (csc S h)) := by
  refine cx_ext ?_ ?_ <;>
  · simp only [csc, csub, cmul, cadd, Int.mul_add, Int.mul_zero, Int.add_zero, Int.sub_zero, Int.mul_assoc, Int.mul_comm, Int.mul_left_comm]
    omega

/-- Half a turn is the sign, but for some units. -/
theorem R_half (c : Nat) : Nm (cadd (R (c + 512)) (R c)) 4096 := by
  refine Nm.unscale (k := SS) ?_ ss_pos
  rw [half_alg SS (R c) (R 512) (R (c + 512))]
  have h1 := (nm_R c).mul nm_r512
  have h2 := R_mul c 512
  refine (h1.sub h2).mono ?_
  have := ss_pos
  omega

theorem cneg_mul (a b : Cx) : cmul (cneg a) b = cneg (cmul a b) := by
  refine cx_ext ?_ ?_ <;> · simp only [cmul, cneg, Int.neg_mul]; omega
theorem mul_cneg (a b : Cx) : cmul a (cneg b) = cneg (cmul a b) := by
  refine cx_ext ?_ ?_ <;> · simp only [cmul, cneg, Int.mul_neg]; omega
theorem csc_cneg (k : Int) (a : Cx) : csc k (cneg a) = cneg (csc k a) := by
  refine cx_ext ?_ ?_ <;> · simp only [csc, cneg, Int.mul_neg]
theorem csub_cneg (a b : Cx) : csub (cneg a) (cneg b) = cneg (csub a b) := by
  refine cx_ext ?_ ?_ <;> · simp only [csub, cneg]; omega

/-- A product of two is the one at the sum of the indices, but for so many units. -/
theorem R_mul_E (a b : Nat) (ha : a < 512) (hb : b < 512) : Nm (csub (cmul (R a) (R b)) (csc SS (E (a + b)))) (8192 * SS) := by
  have hS := ss_pos
  have h1 := R_mul a b
  rcases Nat.lt_or_ge (a + b) 512 with h | h
  · have e : E (a + b) = R (a + b) := by unfold E; rw [Nat.mod_eq_of_lt (by omega), if_pos h]
    rw [e]
    refine h1.mono ?_
    exact Int.mul_le_mul_of_nonneg_right (by omega) (Int.le_of_lt hS)
  · have e : E (a + b) = cneg (R (a + b - 512)) := by unfold E; rw [Nat.mod_eq_of_lt (by omega), if_neg (by omega)]
    rw [e]
    have h2 := (R_half (a + b - 512)).scale (Int.le_of_lt hS)
    rw [show a + b - 512 + 512 = a + b by omega] at h2
    have h3 := h1.add h2
    have e2 : cadd (csub (cmul (R a) (R b)) (csc SS (R (a + b)))) (csc SS (cadd (R (a + b)) (R (a + b - 512)))) = csub (cmul (R a) (R b)) (csc SS (cneg (R (a + b - 512)))) := by
      refine cx_ext ?_ ?_ <;> · simp only [cadd, csub, csc, cneg, Int.mul_add, Int.mul_neg]; omega
    rw [e2] at h3
    refine h3.mono ?_
    have h4 : 4 * (b : Int) * SS ≤ 2048 * SS := Int.mul_le_mul_of_nonneg_right (by omega) (Int.le_of_lt hS)
    omega

theorem E_split (m : Nat) : ∃ r, r < 512 ∧ (m % 512 = r) ∧ ((E m = R r) ∨ (E m = cneg (R r))) := by
  unfold E
  rcases Nat.lt_or_ge (m % 1024) 512 with h | h
  · exact ⟨m % 1024, h, by omega, .inl (by rw [if_pos h])⟩
  · exact ⟨m % 1024 - 512, by omega, by omega, .inr (by rw [if_neg (by omega)])⟩

theorem E_shift (m k : Nat) : E (m + 512 * k) = if k % 2 = 0 then E m else cneg (E m) := by
  split
  · exact E_congr (by omega)
  · rw [← E_half]; exact E_congr (by omega)

theorem E_mul (a b : Nat) : Nm (csub (cmul (E a) (E b)) (csc SS (E (a + b)))) (8192 * SS) := by
  have ea : a = a % 512 + 512 * (a / 512) := by omega
  have eb : b = b % 512 + 512 * (b / 512) := by omega
  have hr := R_mul_E (a % 512) (b % 512) (Nat.mod_lt _ (by decide)) (Nat.mod_lt _ (by decide))
  have rE : ∀ r, r < 512 → E r = R r := fun r hr => by unfold E; rw [Nat.mod_eq_of_lt (by omega), if_pos hr]
  have e1 := E_shift (a % 512) (a / 512)
  have e2 := E_shift (b % 512) (b / 512)
  have e3 := E_shift (a % 512 + b % 512) (a / 512 + b / 512)
  rw [← ea, rE _ (Nat.mod_lt _ (by decide))] at e1
  rw [← eb, rE _ (Nat.mod_lt _ (by decide))] at e2
  rw [show a % 512 + b % 512 + 512 * (a / 512 + b / 512) = a + b by omega] at e3
  rw [e1, e2, e3]
  generalize a / 512 = p at *
  generalize b / 512 = q at *
  have hp : p % 2 = 0 ∨ p % 2 = 1 := by omega
  have hq : q % 2 = 0 ∨ q % 2 = 1 := by omega
  rcases hp with hp | hp <;> rcases hq with hq | hq
  · rw [if_pos hp, if_pos hq, if_pos (by omega)]; exact hr
  · rw [if_pos hp, if_neg (by omega), if_neg (by omega), mul_cneg, csc_cneg, csub_cneg]; exact hr.neg
  · rw [if_neg (by omega), if_pos hq, if_neg (by omega), cneg_mul, csc_cneg, csub_cneg]; exact hr.neg
  · rw [if_neg (by omega), if_neg (by omega), if_pos (by omega), cneg_mul, mul_cneg, cneg_cneg]; exact hr


/-! ### the conjugates -/
theorem ss_big : 1000000 < SS := by decide +kernel

theorem E_inv (b : Nat) : Nm (csub (cmul (E b) (E (1023 * b))) ⟨SS * SS, 0⟩) (8192 * SS) := by
  have h := E_mul b (1023 * b)
  rw [show E (b + 1023 * b) = E 0 from E_congr (by omega), E_zero] at h
  have e : csc SS ⟨SS, 0⟩ = ⟨SS * SS, 0⟩ := cx_ext rfl (by simp [csc])
  rwa [e] at h

theorem norm_mul (a b : Cx) : (cmul a b).re * (cmul a b).re + (cmul a b).im * (cmul a b).im = (a.re * a.re + a.im * a.im) * (b.re * b.re + b.im * b.im) := by
  simp only [cmul, Int.mul_add, Int.add_mul, Int.mul_sub, Int.sub_mul, Int.mul_assoc, Int.mul_comm, Int.mul_left_comm]
  omega

/-- No root is much smaller than one. -/
theorem E_low (b : Nat) : (SS - 8192) * (SS - 8192) ≤ (E b).re * (E b).re + (E b).im * (E b).im := by
  have hS := ss_pos
  have hb := ss_big
  have h1 := (E_inv b).re
  have h2 := norm_mul (E b) (E (1023 * b))
  have h3 := (nm_E (1023 * b)).2
  generalize hz : cmul (E b) (E (1023 * b)) = z at *
  simp only [csub] at h1
  have h4 : SS * (SS - 8192) ≤ z.re := by rw [Int.mul_sub]; omega
  have h5 : 0 ≤ SS * (SS - 8192) := Int.mul_nonneg (by omega) (by omega)
  have h6 := sq_mono h5 h4
  have h7 := sq_nonneg z.im
  have h0 : 0 ≤ (E b).re * (E b).re + (E b).im * (E b).im := by have := sq_nonneg (E b).re; have := sq_nonneg (E b).im; omega
  have h8 := Int.mul_le_mul_of_nonneg_left h3 h0
  have h9 : (SS * SS) * ((SS - 8192) * (SS - 8192)) ≤ (SS * SS) * ((E b).re * (E b).re + (E b).im * (E b).im) := by
    have e1 : SS * (SS - 8192) * (SS * (SS - 8192)) = (SS * SS) * ((SS - 8192) * (SS - 8192)) := by simp only [Int.mul_assoc, Int.mul_comm, Int.mul_left_comm]
    rw [← e1, Int.mul_comm (SS * SS)]
    omega
  exact Int.le_of_mul_le_mul_left h9 (Int.mul_pos hS hS)

theorem conj_alg (e f : Cx) (T : Int) : cmul e (csub (cconj e) f) = csub (csub ⟨e.re * e.re + e.im * e.im, 0⟩ ⟨T, 0⟩) (csub (cmul e f) ⟨T, 0⟩) := by
  refine cx_ext ?_ ?_ <;>
  · simp only [csub, cmul, cconj, Int.mul_sub, Int.mul_neg, Int.mul_comm]
    omega

theorem E_conj (b : Nat) : Nm (csub (cconj (E b)) (E (1023 * b))) 65536 := by
  have hS := ss_pos
  have hb := ss_big
  have h1 := E_inv b
  have h2 := E_low b
  have h3 := (nm_E b).2
  generalize hN : (E b).re * (E b).re + (E b).im * (E b).im = N at *
  have h4 : Nm (csub ⟨N, 0⟩ ⟨SS * SS, 0⟩) (16384 * SS) := by
    refine (nm_comp (z := csub ⟨N, 0⟩ ⟨SS * SS, 0⟩) (a := 16384 * SS) (b := 0) ?_ ?_).mono (by omega)
    · simp only [csub]
      rw [Int.sub_mul, Int.mul_sub] at h2
      omega
    · simp [csub]
  have h5 : Nm (cmul (E b) (csub (cconj (E b)) (E (1023 * b)))) (24576 * SS) := by
    rw [conj_alg (E b) (E (1023 * b)) (SS * SS), hN]
    exact (h4.sub h1).mono (by omega)
  have h6 := h5.2
  rw [norm_mul, hN] at h6
  generalize csub (cconj (E b)) (E (1023 * b)) = d at *
  have hd : 0 ≤ d.re * d.re + d.im * d.im := by have := sq_nonneg d.re; have := sq_nonneg d.im; omega
  -- (SS/2)^2 |d|^2 <= (24576 SS)^2
  have h7 : (SS - 8192) * (SS - 8192) * (d.re * d.re + d.im * d.im) ≤ 24576 * SS * (24576 * SS) := Int.le_trans (Int.mul_le_mul_of_nonneg_right h2 hd) h6
  have h8 : SS * SS ≤ 4 * ((SS - 8192) * (SS - 8192)) := by
    have := sq_mono (Int.le_of_lt hS) (show SS ≤ 2 * (SS - 8192) by omega)
    have e : 2 * (SS - 8192) * (2 * (SS - 8192)) = 4 * ((SS - 8192) * (SS - 8192)) := by
      generalize SS - 8192 = q
      rw [Int.mul_assoc, Int.mul_left_comm q, ← Int.mul_assoc]; rfl
    omega
  refine ⟨by decide, ?_⟩
  have h9 : (SS * SS) * (d.re * d.re + d.im * d.im) ≤ (SS * SS) * (65536 * 65536) := by
    have h10 := Int.mul_le_mul_of_nonneg_right h8 hd
    have e1 : 4 * ((SS - 8192) * (SS - 8192)) * (d.re * d.re + d.im * d.im) = 4 * ((SS - 8192) * (SS - 8192) * (d.re * d.re + d.im * d.im)) := Int.mul_assoc _ _ _
    have e2 : 24576 * SS * (24576 * SS) = 603979776 * (SS * SS) := by
      rw [Int.mul_assoc, Int.mul_left_comm SS, ← Int.mul_assoc]; rfl
    have hQ : 0 < SS * SS := Int.mul_pos hS hS
    generalize SS * SS = Q at *
    generalize (SS - 8192) * (SS - 8192) * (d.re * d.re + d.im * d.im) = W at *
    omega
  exact Int.le_of_mul_le_mul_left h9 (Int.mul_pos hS hS)

end Go.Proofs.Ygctai
