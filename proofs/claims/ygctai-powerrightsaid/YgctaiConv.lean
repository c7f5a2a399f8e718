/-
  Two transforms, a product, and the transform back: the sums of products, near enough. Plain.
-/
import Derived.Test.YgctaiNet
namespace Go.Proofs.Ygctai
set_option linter.unusedVariables false
set_option linter.unusedSimpArgs false

/-- The first t passes. -/
def pss (k : Nat) (tab X : Nat → Cw) : Nat → (Nat → Cw)
  | 0 => X
  | t + 1 => stg (2 ^ t) (2 ^ (k - t - 1)) tab (pss k tab X t)

/-- The error after t passes. -/
def berr (b A : Int) : Nat → Int
  | 0 => b
  | t + 1 => 2 * berr b A t + (2 ^ t : Nat) * A

theorem berr_eq (b A : Int) (t : Nat) : 2 * berr b A t = (2 ^ t : Nat) * (2 * b + t * A) := by
  induction t with
  | zero => simp [berr]
  | succ t ih =>
    have hP : ((2 ^ (t + 1) : Nat) : Int) = 2 * ((2 ^ t : Nat) : Int) := by rw [Nat.pow_succ]; omega
    have ht : ((t + 1 : Nat) : Int) * A = t * A + A := by rw [Int.natCast_add, Int.add_mul]; simp
    rw [berr, hP, Int.mul_add, ih, ht]
    generalize ((2 ^ t : Nat) : Int) = P
    rw [← Int.mul_add, ← Int.mul_add, Int.mul_assoc, Int.add_assoc]

theorem berr_nonneg {b A : Int} (hb : 0 ≤ b) (hA : 0 ≤ A) (t : Nat) : 0 ≤ berr b A t := by
  induction t with
  | zero => exact hb
  | succ t ih =>
    have : 0 ≤ ((2 ^ t : Nat) : Int) * A := Int.mul_nonneg (Int.natCast_nonneg _) hA
    rw [berr]; omega

/-- ALL PASSES. -/
theorem pss_inv {F : Nat → Cx} {x : Nat → Nat → Cx} {a w b d : Int} (S : Sq F x a w) {k : Nat} (hk : k ≤ 10) {tab X : Nat → Cw}
    (hX : ∀ q, q < 2 ^ k → Apx (X q) (x (br k q) 0) b) (hT : ∀ j, 2 * j < 2 ^ k → Apx (tab j) (F (2 ^ (10 - k) * j)) d) (hF : ∀ q, Nm (F q) SS)
    (ha : 2 ≤ a) (ha2 : a ≤ 2 ^ 40) (hb0 : 0 ≤ b) (hd0 : 0 ≤ d) (hb : b ≤ 2 ^ 20 * a) (hd : d ≤ 1024) (hw : 1024 * w ≤ VV) (hw0 : 0 ≤ w) (t : Nat) (ht : t ≤ k) :
    Inv x (k - t) t (pss k tab X t) (berr b ((d + 44) * a) t) ∧ ∀ s, s < t → StgOk (2 ^ k) (2 ^ s) (2 ^ (k - s - 1)) tab (pss k tab X s) := by
  have hA0 : 0 ≤ (d + 44) * a := Int.mul_nonneg (by omega) (by omega)
  have hA1 : (d + 44) * a ≤ 2000 * a := Int.mul_le_mul_of_nonneg_right (by omega) (by omega)
  induction t with
  | zero =>
    refine ⟨fun q hq => ?_, fun s hs => absurd hs (by omega)⟩
    rw [Nat.add_zero, Nat.sub_zero] at hq
    have := hX q hq
    have e : DD x (2 ^ 0) (2 ^ (k - 0)) (2 ^ (10 - 0)) (br (k - 0) (q / 2 ^ 0)) (q % 2 ^ 0) 0 = x (br k q) 0 := by
      rw [Nat.sub_zero, Nat.pow_zero, Nat.div_one, Nat.mod_one]
      unfold DD
      rw [csum, csum]
      refine cx_ext ?_ ?_ <;> simp [cadd, czero]
    rw [e]; exact this
  | succ t ih =>
    obtain ⟨hI, hO⟩ := ih (by omega)
    obtain ⟨m, hm⟩ : ∃ m, k - t = m + 1 := ⟨k - t - 1, by omega⟩
    have hm2 : k - t - 1 = m := by omega
    have hm3 : k - (t + 1) = m := by omega
    have hkm : k = m + 1 + t := by omega
    rw [hm] at hI
    have hp2 : (1 : Int) ≤ ((2 ^ t : Nat) : Int) := by have := Nat.two_pow_pos t; omega
    have hp3 : ((2 ^ t : Nat) : Int) ≤ 1024 := by
      have : 2 ^ t ≤ 2 ^ 10 := Nat.pow_le_pow_right (by decide) (by omega)
      omega
    have hpa : ((2 ^ t : Nat) : Int) * a ≤ 1024 * a := Int.mul_le_mul_of_nonneg_right hp3 (by omega)
    have hbt := berr_eq b ((d + 44) * a) t
    have hbn := berr_nonneg hb0 hA0 t
    have hbig : 2 * berr b ((d + 44) * a) t ≤ 2 ^ 40 * (((2 ^ t : Nat) : Int) * a) := by
      have e : (2 : Int) ^ 40 * (((2 ^ t : Nat) : Int) * a) = ((2 ^ t : Nat) : Int) * (2 ^ 40 * a) := Int.mul_left_comm _ _ _
      rw [hbt, e]
      refine Int.mul_le_mul_of_nonneg_left ?_ (Int.natCast_nonneg _)
      have : (t : Int) * ((d + 44) * a) ≤ 10 * ((d + 44) * a) := Int.mul_le_mul_of_nonneg_right (by omega) hA0
      omega
    have e1 : (d + 44) * (((2 ^ t : Nat) : Int) * a) = ((2 ^ t : Nat) : Int) * ((d + 44) * a) := Int.mul_left_comm _ _ _
    have hpA : ((2 ^ t : Nat) : Int) * ((d + 44) * a) ≤ 2000 * (((2 ^ t : Nat) : Int) * a) := by
      rw [← e1]; exact Int.mul_le_mul_of_nonneg_right (by omega) (Int.mul_nonneg (by omega) (by omega))
    have hstep := stg_inv S (m := m) (t := t) (by omega) hI (tab := tab) (fun j hj => by
      have := hT j (by rw [hkm, show m + 1 + t = m + t + 1 by omega, Nat.pow_succ]; omega)
      rwa [hkm] at this) hF ha (by omega) hbn hd0 (by rw [e1]; omega) hd (by
        have : ((2 ^ t : Nat) : Int) * w ≤ 1024 * w := Int.mul_le_mul_of_nonneg_right hp3 hw0
        omega)
    rw [← hkm] at hstep
    refine ⟨?_, ?_⟩
    · rw [hm3, pss, hm2, berr, ← e1]
      exact hstep.2
    · intro s hs
      rcases Nat.lt_or_ge s t with h | h
      · exact hO s h
      · obtain rfl : s = t := by omega
        rw [hm2]; exact hstep.1

theorem pss_end {F : Nat → Cx} {x : Nat → Nat → Cx} {a w b d : Int} (S : Sq F x a w) {k : Nat} (hk : k ≤ 10) {tab X : Nat → Cw}
    (hX : ∀ q, q < 2 ^ k → Apx (X q) (x (br k q) 0) b) (hT : ∀ j, 2 * j < 2 ^ k → Apx (tab j) (F (2 ^ (10 - k) * j)) d) (hF : ∀ q, Nm (F q) SS)
    (ha : 2 ≤ a) (ha2 : a ≤ 2 ^ 40) (hb0 : 0 ≤ b) (hd0 : 0 ≤ d) (hb : b ≤ 2 ^ 20 * a) (hd : d ≤ 1024) (hw : 1024 * w ≤ VV) (hw0 : 0 ≤ w) :
    (∀ q, q < 2 ^ k → Apx (pss k tab X k q) (DD x (2 ^ k) 1 (2 ^ (10 - k)) 0 q 0) (berr b ((d + 44) * a) k)) ∧ ∀ s, s < k → StgOk (2 ^ k) (2 ^ s) (2 ^ (k - s - 1)) tab (pss k tab X s) := by
  obtain ⟨h1, h2⟩ := pss_inv S hk hX hT hF ha ha2 hb0 hd0 hb hd hw hw0 k (Nat.le_refl k)
  refine ⟨fun q hq => ?_, h2⟩
  have := h1 q (by rw [Nat.sub_self, Nat.zero_add]; exact hq)
  rwa [Nat.sub_self, Nat.pow_zero, br, Nat.mod_eq_of_lt hq] at this

/-! ### sums over a turn -/
theorem csum_app (f : Nat → Cx) (m n : Nat) : csum f (m + n) = cadd (csum f m) (csum (fun i => f (m + i)) n) := by
  induction n with
  | zero => refine cx_ext ?_ ?_ <;> simp [csum, cadd, czero]
  | succ n ih =>
    rw [← Nat.add_assoc, csum, ih, csum]
    refine cx_ext ?_ ?_ <;> · simp only [cadd]; omega

theorem orth (k q : Nat) (hk : k ≤ 10) : csum (fun j => E (2 ^ (10 - k) * (j * q))) (2 ^ k) = if q % 2 ^ k = 0 then ⟨(2 ^ k : Nat) * SS, 0⟩ else czero := by
  induction k generalizing q with
  | zero =>
    rw [Nat.pow_zero, Nat.mod_one, if_pos rfl, csum, csum, Nat.zero_mul, Nat.mul_zero, E_zero]
    refine cx_ext ?_ ?_ <;> simp [cadd, czero]
  | succ k ih =>
    have e0 : 2 ^ (k + 1) = 2 ^ k + 2 ^ k := by rw [Nat.pow_succ]; omega
    have e1 : 2 ^ (10 - (k + 1)) * 2 ^ k = 512 := by rw [← Nat.pow_add, show 10 - (k + 1) + k = 9 by omega]
    rw [e0, csum_app]
    rcases Nat.mod_two_eq_zero_or_one q with hq | hq
    · obtain ⟨p, rfl⟩ : ∃ p, q = 2 * p := ⟨q / 2, by omega⟩
      have e2 : ∀ j, E (2 ^ (10 - (k + 1)) * (j * (2 * p))) = E (2 ^ (10 - k) * (j * p)) := fun j => by
        rw [show 10 - k = 10 - (k + 1) + 1 by omega, Nat.pow_succ, Nat.mul_left_comm j 2, Nat.mul_assoc]
      have e3 : csum (fun i => E (2 ^ (10 - (k + 1)) * ((2 ^ k + i) * (2 * p)))) (2 ^ k) = csum (fun i => E (2 ^ (10 - k) * (i * p))) (2 ^ k) := csum_congr _ fun i _ => by
        rw [← e2 i]
        apply E_congr
        rw [Nat.add_mul, Nat.mul_add, ← Nat.mul_assoc, e1, ← Nat.mul_assoc]
        omega
      rw [e3, csum_congr (2 ^ k) (fun j _ => e2 j), ih p (by omega)]
      have e4 : 2 * p % (2 ^ k + 2 ^ k) = 2 * (p % 2 ^ k) := by rw [← Nat.two_mul, Nat.mul_mod_mul_left]
      rw [e4]
      by_cases hp : p % 2 ^ k = 0
      · rw [if_pos hp, if_pos (by omega)]
        refine cx_ext ?_ ?_
        · simp only [cadd, Int.natCast_add, Int.add_mul]
        · simp [cadd]
      · rw [if_neg hp, if_neg (by omega)]
        refine cx_ext ?_ ?_ <;> simp [cadd, czero]
    · have hne : q % (2 ^ k + 2 ^ k) ≠ 0 := fun h => by
        have : (2 ^ k + 2 ^ k) ∣ q := Nat.dvd_of_mod_eq_zero h
        obtain ⟨z, rfl⟩ := this
        rw [← Nat.two_mul, Nat.mul_assoc, Nat.mul_mod_right] at hq
        omega
      rw [if_neg hne]
      have e3 : csum (fun i => E (2 ^ (10 - (k + 1)) * ((2 ^ k + i) * q))) (2 ^ k) = cneg (csum (fun i => E (2 ^ (10 - (k + 1)) * (i * q))) (2 ^ k)) := by
        rw [csum_neg]
        refine csum_congr _ fun i _ => ?_
        rw [← E_half]
        apply E_congr
        rw [Nat.add_mul, Nat.mul_add, ← Nat.mul_assoc, e1]
        omega
      rw [e3]
      refine cx_ext ?_ ?_ <;> · simp only [cadd, cneg, czero]; omega


/-! ### the rows of numbers -/
def xf (f : Nat → Nat) (i s : Nat) : Cx := csc (f i : Nat) (E s)
def yf (f g : Nat → Nat) (n G j s : Nat) : Cx := csum (fun i => csum (fun i' => csc ((f i * g i' : Nat) : Int) (E (G * (i * j) + G * (i' * j) + 1023 * s))) n) n

theorem sc_rot (a : Int) (p q r : Cx) (S : Int) : csub (cmul (csc a p) q) (csc S (csc a r)) = csc a (csub (cmul p q) (csc S r)) := by
  refine cx_ext ?_ ?_ <;>
  · simp only [csub, cmul, csc, Int.mul_add, Int.mul_sub, Int.mul_assoc, Int.mul_comm, Int.mul_left_comm]
theorem sc_prod (a b : Int) (p q r : Cx) (S : Int) : csub (cmul (csc a p) (csc b q)) (csc S (csc (a * b) r)) = csc (a * b) (csub (cmul p q) (csc S r)) := by
  refine cx_ext ?_ ?_ <;>
  · simp only [csub, cmul, csc, Int.mul_add, Int.mul_sub, Int.mul_assoc, Int.mul_comm, Int.mul_left_comm]

theorem byte_le {a M : Int} {x : Nat} (h : x ≤ 65536) (ha : 0 ≤ M) : (x : Int) * M ≤ 65536 * M := Int.mul_le_mul_of_nonneg_right (by omega) ha

theorem sq_xf {f : Nat → Nat} (hf : ∀ i, f i < 256) : Sq E (xf f) 256 2097152 where
  half := fun i s => by unfold xf; rw [E_half, csc_cneg]
  size := fun i s => by
    refine ((nm_E s).scale (k := (f i : Nat)) (Int.natCast_nonneg _)).mono ?_
    have := hf i
    rw [Int.mul_comm]; exact Int.mul_le_mul_of_nonneg_left (by omega) (Int.le_of_lt ss_pos)
  rot := fun i s q => by
    unfold xf
    rw [sc_rot]
    refine ((E_mul s q).scale (k := (f i : Nat)) (Int.natCast_nonneg _)).mono ?_
    have := hf i
    have h1 : (f i : Int) * (8192 * SS) ≤ 256 * (8192 * SS) := Int.mul_le_mul_of_nonneg_right (by omega) (by have := ss_pos; omega)
    omega

theorem fg_le {f g : Nat → Nat} (hf : ∀ i, f i < 256) (hg : ∀ i, g i < 256) (i j : Nat) : f i * g j ≤ 65536 := by
  have := Nat.mul_le_mul (show f i ≤ 256 by have := hf i; omega) (show g j ≤ 256 by have := hg j; omega)
  omega

theorem nn_le {n : Nat} (hn : n ≤ 1024) {M : Int} (hM : 0 ≤ M) : (n : Int) * (n * M) ≤ 1048576 * M := by
  have h1 : (n : Int) * M ≤ 1024 * M := Int.mul_le_mul_of_nonneg_right (by omega) hM
  have h2 : (n : Int) * (n * M) ≤ 1024 * (n * M) := Int.mul_le_mul_of_nonneg_right (by omega) (Int.mul_nonneg (by omega) hM)
  omega

theorem csum2_nm {F : Nat → Nat → Cx} {M : Int} {n : Nat} (hn : n ≤ 1024) (h : ∀ i j, Nm (F i j) M) : Nm (csum (fun i => csum (fun j => F i j) n) n) (1048576 * M) := by
  refine (csum_nm n fun i _ => csum_nm n fun j _ => h i j).mono ?_
  exact nn_le hn (h 0 0).1

theorem sq_yf {f g : Nat → Nat} (hf : ∀ i, f i < 256) (hg : ∀ i, g i < 256) {n : Nat} (hn : n ≤ 1024) (G : Nat) : Sq (fun q => E (1023 * q)) (yf f g n G) 68719476736 562949953421312 where
  half := fun j s => by
    unfold yf
    rw [csum_neg]
    refine csum_congr n fun i _ => ?_
    rw [csum_neg]
    refine csum_congr n fun i' _ => ?_
    rw [← csc_cneg, ← E_half]
    exact congrArg (csc _) (E_congr (by omega))
  size := fun j s => by
    unfold yf
    refine (csum2_nm (M := 65536 * SS) hn fun i i' => ?_).mono (by have := ss_pos; omega)
    refine ((nm_E _).scale (Int.natCast_nonneg _)).mono ?_
    exact Int.mul_le_mul_of_nonneg_right (by have := fg_le hf hg i i'; omega) (Int.le_of_lt ss_pos)
  rot := fun j s q => by
    unfold yf
    rw [csum_mul, csum_sc, csum_sub]
    have : ∀ i, csub (cmul (csum (fun i' => csc ((f i * g i' : Nat) : Int) (E (G * (i * j) + G * (i' * j) + 1023 * s))) n) (E (1023 * q))) (csc SS (csum (fun i' => csc ((f i * g i' : Nat) : Int) (E (G * (i * j) + G * (i' * j) + 1023 * (s + q)))) n)) =
        csum (fun i' => csc ((f i * g i' : Nat) : Int) (csub (cmul (E (G * (i * j) + G * (i' * j) + 1023 * s)) (E (1023 * q))) (csc SS (E (G * (i * j) + G * (i' * j) + 1023 * s + 1023 * q))))) n := fun i => by
      rw [csum_mul, csum_sc, csum_sub]
      refine csum_congr n fun i' _ => ?_
      rw [sc_rot]
      congr 4
      rw [Nat.mul_add, Nat.add_assoc, Nat.add_assoc]
      omega
    rw [csum_congr n fun i _ => this i]
    refine (csum2_nm (M := 65536 * (8192 * SS)) hn fun i i' => ?_).mono (by have := ss_pos; omega)
    refine ((E_mul _ _).scale (Int.natCast_nonneg _)).mono ?_
    exact Int.mul_le_mul_of_nonneg_right (by have := fg_le hf hg i i'; omega) (by have := ss_pos; omega)

theorem csum_cmul (f g : Nat → Cx) (m n : Nat) : cmul (csum f m) (csum g n) = csum (fun i => csum (fun j => cmul (f i) (g j)) n) m := by
  rw [csum_mul]
  refine csum_congr m fun i _ => ?_
  have : ∀ z : Cx, cmul z (csum g n) = csum (fun j => cmul z (g j)) n := fun z => by
    induction n with
    | zero => exact cx_ext (by simp [csum, cmul, czero]) (by simp [csum, cmul, czero])
    | succ n ih =>
      rw [csum, csum, ← ih]
      refine cx_ext ?_ ?_ <;> · simp only [cmul, cadd, Int.mul_add]; omega
  exact this _

/-- The product of two transforms. -/
theorem prod_xf {f g : Nat → Nat} (hf : ∀ i, f i < 256) (hg : ∀ i, g i < 256) {n : Nat} (hn : n ≤ 1024) (G j : Nat) :
    Nm (csub (cmul (DD (xf f) n 1 G 0 j 0) (DD (xf g) n 1 G 0 j 0)) (csc SS (yf f g n G j 0))) (SS * 562949953421312) := by
  unfold DD yf
  rw [csum_cmul, csum_sc, csum_sub]
  have : ∀ i, csub (csum (fun j_1 => cmul (xf f (0 + i * 1) (G * (i * j) + 0)) (xf g (0 + j_1 * 1) (G * (j_1 * j) + 0))) n) (csc SS (csum (fun i' => csc ((f i * g i' : Nat) : Int) (E (G * (i * j) + G * (i' * j) + 1023 * 0))) n)) =
      csum (fun i' => csc ((f i : Int) * (g i' : Int)) (csub (cmul (E (G * (i * j))) (E (G * (i' * j)))) (csc SS (E (G * (i * j) + G * (i' * j)))))) n := fun i => by
    rw [csum_sc, csum_sub]
    refine csum_congr n fun i' _ => ?_
    simp only [xf, Nat.zero_add, Nat.mul_one, Nat.add_zero, Nat.mul_zero, Int.natCast_mul]
    rw [sc_prod]
  rw [csum_congr n fun i _ => this i]
  refine (csum2_nm (M := 65536 * (8192 * SS)) hn fun i i' => ?_).mono (by have := ss_pos; omega)
  refine ((E_mul _ _).scale (Int.mul_nonneg (Int.natCast_nonneg _) (Int.natCast_nonneg _))).mono ?_
  have h := fg_le hf hg i i'
  rw [← Int.natCast_mul]
  exact Int.mul_le_mul_of_nonneg_right (by omega) (by have := ss_pos; omega)

/-! ### the sums that come out -/
def nsum (f : Nat → Nat) : Nat → Nat
  | 0 => 0
  | n + 1 => nsum f n + f n
/-- The cyclic sums of products. -/
def cvs (f g : Nat → Nat) (n m : Nat) : Nat := nsum (fun i => nsum (fun i' => if (i + i' + 1023 * m) % n = 0 then f i * g i' else 0) n) n

theorem csum_swap (F : Nat → Nat → Cx) (m n : Nat) : csum (fun i => csum (fun j => F i j) n) m = csum (fun j => csum (fun i => F i j) m) n := by
  induction m with
  | zero =>
    have : ∀ n, csum (fun j => csum (fun i => F i j) 0) n = czero := fun n => by
      induction n with
      | zero => rfl
      | succ n ih => rw [csum, ih]; refine cx_ext ?_ ?_ <;> simp [csum, cadd, czero]
    rw [this]; rfl
  | succ m ih =>
    rw [csum, ih]
    clear ih
    induction n with
    | zero => refine cx_ext ?_ ?_ <;> simp [csum, cadd, czero]
    | succ n ih =>
      rw [csum, csum, csum, ← ih, csum]
      refine cx_ext ?_ ?_ <;> · simp only [cadd]; omega

theorem csum_real (f : Nat → Nat) (T : Int) (n : Nat) : csum (fun i => ⟨(f i : Int) * T, 0⟩) n = ⟨(nsum f n : Int) * T, 0⟩ := by
  induction n with
  | zero => refine cx_ext ?_ ?_ <;> simp [csum, nsum, czero]
  | succ n ih =>
    rw [csum, ih, nsum]
    refine cx_ext ?_ ?_
    · simp only [cadd, Int.natCast_add, Int.add_mul]
    · simp [cadd]

/-- THE TRANSFORM BACK, exactly. -/
theorem back_eq (f g : Nat → Nat) (k : Nat) (hk : k ≤ 10) (m : Nat) :
    DD (yf f g (2 ^ k) (2 ^ (10 - k))) (2 ^ k) 1 (2 ^ (10 - k)) 0 m 0 = ⟨(cvs f g (2 ^ k) m : Int) * ((2 ^ k : Nat) * SS), 0⟩ := by
  unfold DD yf
  have e1 : ∀ i' i'' j, 2 ^ (10 - k) * (i' * (0 + j * 1)) + 2 ^ (10 - k) * (i'' * (0 + j * 1)) + 1023 * (2 ^ (10 - k) * (j * m) + 0) = 2 ^ (10 - k) * (j * (i' + i'' + 1023 * m)) := fun i' i'' j => by
    rw [Nat.zero_add, Nat.mul_one, Nat.add_zero, Nat.mul_add, Nat.mul_add, Nat.mul_add, Nat.mul_add, Nat.mul_comm j i', Nat.mul_comm j i'', Nat.mul_left_comm 1023, Nat.mul_left_comm j 1023]
  simp only [e1]
  rw [csum_swap (fun j i => csum (fun i' => csc ((f i * g i' : Nat) : Int) (E (2 ^ (10 - k) * (j * (i + i' + 1023 * m))))) (2 ^ k)) (2 ^ k) (2 ^ k)]
  have e2 : ∀ i, csum (fun j => csum (fun i' => csc ((f i * g i' : Nat) : Int) (E (2 ^ (10 - k) * (j * (i + i' + 1023 * m))))) (2 ^ k)) (2 ^ k) =
      ⟨(nsum (fun i' => if (i + i' + 1023 * m) % 2 ^ k = 0 then f i * g i' else 0) (2 ^ k) : Int) * ((2 ^ k : Nat) * SS), 0⟩ := fun i => by
    rw [csum_swap (fun j i' => csc ((f i * g i' : Nat) : Int) (E (2 ^ (10 - k) * (j * (i + i' + 1023 * m))))) (2 ^ k) (2 ^ k), ← csum_real]
    refine csum_congr _ fun i' _ => ?_
    rw [← csum_sc, orth k (i + i' + 1023 * m) hk]
    by_cases h : (i + i' + 1023 * m) % 2 ^ k = 0
    · rw [if_pos h, if_pos h]
      refine cx_ext ?_ ?_ <;> simp [csc]
    · rw [if_neg h, if_neg h]
      refine cx_ext ?_ ?_ <;> simp [csc, czero]
  rw [csum_congr (2 ^ k) fun i _ => e2 i, csum_real]
  rfl

end Go.Proofs.Ygctai
