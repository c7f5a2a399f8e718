/-
  The network of butterflies: what it comes to, and how near. Plain.
-/
import Derived.Test.YgctaiBfly
namespace Go.Proofs.Ygctai
set_option linter.unusedVariables false
set_option linter.unusedSimpArgs false

def csum (f : Nat → Cx) : Nat → Cx
  | 0 => czero
  | n + 1 => cadd (csum f n) (f n)

theorem csum_congr {f g : Nat → Cx} (n : Nat) (h : ∀ i, i < n → f i = g i) : csum f n = csum g n := by
  induction n with
  | zero => rfl
  | succ n ih => rw [csum, csum, ih (fun i hi => h i (by omega)), h n (by omega)]
theorem csum_nm {f : Nat → Cx} {M : Int} (n : Nat) (h : ∀ i, i < n → Nm (f i) M) : Nm (csum f n) (n * M) := by
  induction n with
  | zero => exact nm_zero.mono (by simp)
  | succ n ih =>
    refine ((ih fun i hi => h i (by omega)).add (h n (by omega))).mono ?_
    rw [Int.natCast_add, Int.add_mul]; omega
theorem csum_mul (f : Nat → Cx) (z : Cx) (n : Nat) : cmul (csum f n) z = csum (fun i => cmul (f i) z) n := by
  induction n with
  | zero => exact cx_ext (by simp [csum, cmul, czero]) (by simp [csum, cmul, czero])
  | succ n ih =>
    rw [csum, csum, ← ih]
    refine cx_ext ?_ ?_ <;> · simp only [cmul, cadd, Int.add_mul]; omega
theorem csum_sc (f : Nat → Cx) (k : Int) (n : Nat) : csc k (csum f n) = csum (fun i => csc k (f i)) n := by
  induction n with
  | zero => exact cx_ext (by simp [csum, csc, czero]) (by simp [csum, csc, czero])
  | succ n ih =>
    rw [csum, csum, ← ih]
    refine cx_ext ?_ ?_ <;> · simp only [csc, cadd, Int.mul_add]
theorem csum_sub (f g : Nat → Cx) (n : Nat) : csub (csum f n) (csum g n) = csum (fun i => csub (f i) (g i)) n := by
  induction n with
  | zero => exact csub_self _
  | succ n ih =>
    rw [csum, csum, csum, ← ih]
    refine cx_ext ?_ ?_ <;> · simp only [csub, cadd]; omega
theorem csum_neg (f : Nat → Cx) (n : Nat) : cneg (csum f n) = csum (fun i => cneg (f i)) n := by
  induction n with
  | zero => exact cx_ext (by simp [csum, cneg, czero]) (by simp [csum, cneg, czero])
  | succ n ih =>
    rw [csum, csum, ← ih]
    refine cx_ext ?_ ?_ <;> · simp only [cneg, cadd]; omega
theorem csum_two (f : Nat → Cx) (c : Nat) : csum f (2 * c) = cadd (csum (fun i => f (2 * i)) c) (csum (fun i => f (2 * i + 1)) c) := by
  induction c with
  | zero => exact cx_ext (by simp [csum, cadd, czero]) (by simp [csum, cadd, czero])
  | succ c ih =>
    rw [show 2 * (c + 1) = 2 * c + 1 + 1 by omega, csum, csum, ih, csum, csum]
    refine cx_ext ?_ ?_ <;> · simp only [cadd]; omega

/-- A row of numbers, each with all its turns. -/
structure Sq (F : Nat → Cx) (x : Nat → Nat → Cx) (a w : Int) : Prop where
  half : ∀ i s, x i (s + 512) = cneg (x i s)
  size : ∀ i s, Nm (x i s) (SS * a)
  rot : ∀ i s q, Nm (csub (cmul (x i s) (F q)) (csc SS (x i (s + q)))) (SS * w)

/-- The transform of c of them, from r on in steps of h. -/
def DD (x : Nat → Nat → Cx) (c h g r j s : Nat) : Cx := csum (fun i => x (r + i * h) (g * (i * j) + s)) c

section
variable {F : Nat → Cx} {x : Nat → Nat → Cx} {a w : Int}

theorem Sq.full (S : Sq F x a w) (i s : Nat) : x i (s + 1024) = x i s := by
  rw [show s + 1024 = s + 512 + 512 by omega, S.half, S.half, cneg_cneg]
theorem Sq.turns (S : Sq F x a w) (i s m : Nat) : x i (s + 1024 * m) = x i s := by
  induction m with
  | zero => rfl
  | succ m ih => rw [show s + 1024 * (m + 1) = s + 1024 * m + 1024 by omega, S.full, ih]

theorem dd_size (S : Sq F x a w) (c h g r j s : Nat) : Nm (DD x c h g r j s) (SS * (c * a)) := by
  refine (csum_nm c fun i _ => S.size _ _).mono ?_
  rw [Int.mul_left_comm]; omega
theorem dd_half (S : Sq F x a w) (c h g r j s : Nat) : DD x c h g r j (s + 512) = cneg (DD x c h g r j s) := by
  unfold DD
  rw [csum_neg]
  exact csum_congr c fun i _ => by rw [← S.half, Nat.add_assoc]
theorem dd_rot (S : Sq F x a w) (c h g r j s q : Nat) : Nm (csub (cmul (DD x c h g r j s) (F q)) (csc SS (DD x c h g r j (s + q)))) (SS * (c * w)) := by
  unfold DD
  rw [csum_mul, csum_sc, csum_sub]
  refine (csum_nm (M := SS * w) c fun i _ => ?_).mono ?_
  · have := S.rot (r + i * h) (g * (i * j) + s) q
    rwa [Nat.add_assoc] at this
  · rw [Int.mul_left_comm]; omega
/-- The transform of twice as many, out of two. -/
theorem dd_two (x : Nat → Nat → Cx) (c h g r j s : Nat) : DD x (2 * c) h g r j s = cadd (DD x c (2 * h) (2 * g) r j s) (DD x c (2 * h) (2 * g) (r + h) j (s + g * j)) := by
  unfold DD
  rw [csum_two]
  congr 1
  · exact csum_congr c fun i _ => by
      congr 1
      · rw [Nat.mul_comm 2 i, Nat.mul_assoc]
      · rw [Nat.mul_comm 2 i, Nat.mul_right_comm i, ← Nat.mul_assoc g, Nat.mul_comm (g * (i * j)) 2, Nat.mul_assoc 2]
  · exact csum_congr c fun i _ => by
      congr 1
      · rw [Nat.add_mul, Nat.one_mul, Nat.mul_comm 2 i, Nat.mul_assoc]; omega
      · rw [Nat.add_mul, Nat.one_mul, Nat.mul_add, Nat.mul_assoc 2 i j, Nat.mul_left_comm g 2, Nat.mul_assoc 2 g]; omega
/-- It comes round. -/
theorem dd_round (S : Sq F x a w) (c h g r j s : Nat) (hg : g * c = 1024) : DD x c h g r (j + c) s = DD x c h g r j s := by
  unfold DD
  exact csum_congr c fun i _ => by
    have : g * (i * (j + c)) + s = g * (i * j) + s + 1024 * i := by
      rw [Nat.mul_add, Nat.mul_add, Nat.mul_left_comm g i c, hg, Nat.mul_comm i 1024]; omega
    rw [this, S.turns]
end


/-- The lowest m bits in the other order. -/
def br : Nat → Nat → Nat
  | 0, _ => 0
  | m + 1, s => (s % 2) * 2 ^ m + br m (s / 2)

/-- One pass over blocks of 2c: half c, the table in steps of p. -/
def stg (c p : Nat) (tab X : Nat → Cw) : Nat → Cw := fun q =>
  if q % (2 * c) < c then wadd (X q) (wmul (X (q + c)) (tab (q % (2 * c) * p))) else wsub (X (q - c)) (wmul (X q) (tab ((q % (2 * c) - c) * p)))

/-- After passes over blocks of 2^t, m more to come: entry q stands for the transform of 2^t numbers. -/
def Inv (x : Nat → Nat → Cx) (m t : Nat) (X : Nat → Cw) (b : Int) : Prop :=
  ∀ q, q < 2 ^ (m + t) → Apx (X q) (DD x (2 ^ t) (2 ^ m) (2 ^ (10 - t)) (br m (q / 2 ^ t)) (q % 2 ^ t) 0) b

/-- All operations of a pass are valid. -/
def StgOk (n c p : Nat) (tab X : Nat → Cw) : Prop :=
  ∀ q, q < n → q % (2 * c) < c → WMulOk (X (q + c)) (tab (q % (2 * c) * p)) ∧ WAddOk (X q) (wmul (X (q + c)) (tab (q % (2 * c) * p))) ∧ WSubOk (X q) (wmul (X (q + c)) (tab (q % (2 * c) * p)))

/-- The two halves of a butterfly. -/
theorem bfly {F : Nat → Cx} {x : Nat → Nat → Cx} {a w b d : Int} (S : Sq F x a w) {c h g r j : Nat} (hg : 2 * g * c = 1024) {u v T : Cw}
    (hu : Apx u (DD x c (2 * h) (2 * g) r j 0) b) (hv : Apx v (DD x c (2 * h) (2 * g) (r + h) j 0) b) (hT : Apx T (F (g * j)) d) (hF : Nm (F (g * j)) SS)
    (ha : 2 ≤ a) (hc : 0 < c) (hca : c * a ≤ 2 ^ 90) (hb0 : 0 ≤ b) (hd0 : 0 ≤ d) (hb : 2 * b + (d + 44) * (c * a) ≤ 2 ^ 43 * (c * a)) (hd : d ≤ 1024) (hw : c * w ≤ VV) :
    WMulOk v T ∧ WAddOk u (wmul v T) ∧ WSubOk u (wmul v T) ∧ Apx (wadd u (wmul v T)) (DD x (2 * c) h g r j 0) (2 * b + (d + 44) * (c * a)) ∧
      Apx (wsub u (wmul v T)) (DD x (2 * c) h g r (j + c) 0) (2 * b + (d + 44) * (c * a)) := by
  have hA : (2 : Int) ≤ c * a := by
    have := Int.mul_le_mul (a := 1) (b := 2) (c := (c : Int)) (d := a) (by omega) ha (by decide) (by omega)
    omega
  generalize hAe : (c : Int) * a = A at *
  have nU := dd_size S c (2 * h) (2 * g) r j 0
  have nW := dd_size S c (2 * h) (2 * g) (r + h) j 0
  have nW1 := dd_size S c (2 * h) (2 * g) (r + h) j (0 + g * j)
  have rt := dd_rot S c (2 * h) (2 * g) (r + h) j 0 (g * j)
  rw [hAe] at nU nW nW1
  have hdA0 : 0 ≤ d * A := Int.mul_nonneg hd0 (by omega)
  have e1 : (d + 44) * A = d * A + 44 * A := Int.add_mul _ _ _
  have e2 : A * d = d * A := Int.mul_comm _ _
  have hdA : d * A ≤ 1024 * A := Int.mul_le_mul_of_nonneg_right hd (by omega)
  have hbd : b * d ≤ 2 ^ 53 * (A * 1) := by
    have h1 : b * d ≤ b * 1024 := Int.mul_le_mul_of_nonneg_left hd hb0
    omega
  obtain ⟨ok, ap⟩ := apx_mul (C := 1) hv hT nW (hF.mono (by omega)) rt (by omega) (by decide) (by omega) (by decide) (by omega) (by omega) hb0 hd0 hbd hw
  rw [e2] at ap
  obtain ⟨ok1, ap1⟩ := apx_add (A := A) hu ap nU nW1 (by omega) (by omega) (by omega) (by omega)
  obtain ⟨ok2, ap2⟩ := apx_sub (A := A) hu ap nU nW1 (by omega) (by omega) (by omega) (by omega)
  refine ⟨ok, ok1, ok2, ?_, ?_⟩
  · rw [dd_two]
    exact ap1.mono (by omega)
  · rw [dd_two, dd_round S c (2 * h) (2 * g) r j 0 hg, dd_round S c (2 * h) (2 * g) (r + h) j _ hg]
    have e3 : 0 + g * (j + c) = 0 + g * j + 512 := by
      have : 2 * (g * c) = 1024 := by rw [← Nat.mul_assoc]; exact hg
      rw [Nat.mul_add]; omega
    rw [e3, dd_half S]
    have e4 : cadd (DD x c (2 * h) (2 * g) r j 0) (cneg (DD x c (2 * h) (2 * g) (r + h) j (0 + g * j))) = csub (DD x c (2 * h) (2 * g) r j 0) (DD x c (2 * h) (2 * g) (r + h) j (0 + g * j)) :=
      cx_ext (by simp only [cadd, cneg, csub]; omega) (by simp only [cadd, cneg, csub]; omega)
    rw [e4]
    exact ap2.mono (by omega)

theorem br_even (m s : Nat) : br (m + 1) (2 * s) = br m s := by
  rw [br, Nat.mul_mod_right, Nat.zero_mul, Nat.zero_add, Nat.mul_div_cancel_left _ (by decide)]
theorem br_odd (m s : Nat) : br (m + 1) (2 * s + 1) = br m s + 2 ^ m := by
  rw [br, show (2 * s + 1) % 2 = 1 by omega, show (2 * s + 1) / 2 = s by omega]; omega

theorem idx_low {q c : Nat} (hc : 0 < c) (h : q % (2 * c) < c) : q / c = 2 * (q / (2 * c)) ∧ q % c = q % (2 * c) ∧ (q + c) / c = 2 * (q / (2 * c)) + 1 ∧ (q + c) % c = q % (2 * c) := by
  have h1 := Nat.div_add_mod q (2 * c)
  have e1 : q = q % (2 * c) + c * (2 * (q / (2 * c))) := by
    have : 2 * c * (q / (2 * c)) = c * (2 * (q / (2 * c))) := by rw [Nat.mul_comm 2 c, Nat.mul_assoc]
    omega
  generalize q % (2 * c) = j at *
  generalize q / (2 * c) = s at *
  have e2 : q / c = 2 * s := by rw [e1, Nat.add_mul_div_left _ _ hc, Nat.div_eq_of_lt h, Nat.zero_add]
  have e3 : q % c = j := by rw [e1, Nat.add_mul_mod_self_left, Nat.mod_eq_of_lt h]
  refine ⟨e2, e3, ?_, ?_⟩
  · rw [Nat.add_div_right _ hc, e2]
  · rw [Nat.add_mod_right, e3]

/-- ONE PASS. -/
theorem stg_inv {F : Nat → Cx} {x : Nat → Nat → Cx} {a w b d : Int} (S : Sq F x a w) {m t : Nat} (hk : m + 1 + t ≤ 10) {tab X : Nat → Cw} (hI : Inv x (m + 1) t X b)
    (hT : ∀ j, j < 2 ^ (m + t) → Apx (tab j) (F (2 ^ (10 - (m + 1 + t)) * j)) d) (hF : ∀ q, Nm (F q) SS)
    (ha : 2 ≤ a) (hca : (2 ^ t : Nat) * a ≤ 2 ^ 90) (hb0 : 0 ≤ b) (hd0 : 0 ≤ d) (hb : 2 * b + (d + 44) * ((2 ^ t : Nat) * a) ≤ 2 ^ 43 * ((2 ^ t : Nat) * a)) (hd : d ≤ 1024) (hw : (2 ^ t : Nat) * w ≤ VV) :
    StgOk (2 ^ (m + 1 + t)) (2 ^ t) (2 ^ m) tab X ∧ Inv x m (t + 1) (stg (2 ^ t) (2 ^ m) tab X) (2 * b + (d + 44) * ((2 ^ t : Nat) * a)) := by
  have hc : 0 < 2 ^ t := Nat.two_pow_pos t
  have hgc : 2 * 2 ^ (9 - t) * 2 ^ t = 1024 := by
    rw [show 2 * 2 ^ (9 - t) = 2 ^ (9 - t + 1) by rw [Nat.pow_succ, Nat.mul_comm], ← Nat.pow_add, show 9 - t + 1 + t = 10 by omega]
  have hpt : 2 * 2 ^ t = 2 ^ (t + 1) := by rw [Nat.pow_succ, Nat.mul_comm]
  -- the butterfly of each q in the lower half
  have key : ∀ q, q < 2 ^ (m + 1 + t) → q % (2 * 2 ^ t) < 2 ^ t →
      WMulOk (X (q + 2 ^ t)) (tab (q % (2 * 2 ^ t) * 2 ^ m)) ∧ WAddOk (X q) (wmul (X (q + 2 ^ t)) (tab (q % (2 * 2 ^ t) * 2 ^ m))) ∧ WSubOk (X q) (wmul (X (q + 2 ^ t)) (tab (q % (2 * 2 ^ t) * 2 ^ m))) ∧
      Apx (wadd (X q) (wmul (X (q + 2 ^ t)) (tab (q % (2 * 2 ^ t) * 2 ^ m)))) (DD x (2 * 2 ^ t) (2 ^ m) (2 ^ (9 - t)) (br m (q / (2 * 2 ^ t))) (q % (2 * 2 ^ t)) 0) (2 * b + (d + 44) * ((2 ^ t : Nat) * a)) ∧
      Apx (wsub (X q) (wmul (X (q + 2 ^ t)) (tab (q % (2 * 2 ^ t) * 2 ^ m)))) (DD x (2 * 2 ^ t) (2 ^ m) (2 ^ (9 - t)) (br m (q / (2 * 2 ^ t))) (q % (2 * 2 ^ t) + 2 ^ t) 0) (2 * b + (d + 44) * ((2 ^ t : Nat) * a)) := by
    intro q hq hlow
    obtain ⟨i1, i2, i3, i4⟩ := idx_low hc hlow
    have hq2 : q + 2 ^ t < 2 ^ (m + 1 + t) := by
      have e1 : 2 ^ (m + 1 + t) = 2 ^ m * (2 * 2 ^ t) := by rw [Nat.pow_add, Nat.pow_succ, Nat.mul_assoc]
      have h1 : q / (2 * 2 ^ t) < 2 ^ m := by rw [Nat.div_lt_iff_lt_mul (by omega), ← e1]; exact hq
      have h2 := Nat.div_add_mod q (2 * 2 ^ t)
      have h3 : (q / (2 * 2 ^ t) + 1) * (2 * 2 ^ t) ≤ 2 ^ m * (2 * 2 ^ t) := Nat.mul_le_mul_right _ h1
      rw [Nat.add_mul, Nat.one_mul, Nat.mul_comm (q / (2 * 2 ^ t))] at h3
      rw [e1]; omega
    have hu := hI q hq
    have hv := hI (q + 2 ^ t) hq2
    rw [i1, i2, br_even] at hu
    rw [i3, i4, br_odd] at hv
    have eg : 2 ^ (10 - t) = 2 * 2 ^ (9 - t) := by rw [show 10 - t = 9 - t + 1 by omega, Nat.pow_succ, Nat.mul_comm]
    have eh : 2 ^ (m + 1) = 2 * 2 ^ m := by rw [Nat.pow_succ, Nat.mul_comm]
    rw [eg, eh] at hu hv
    generalize q % (2 * 2 ^ t) = j at *
    have hj : j * 2 ^ m < 2 ^ (m + t) := by rw [Nat.pow_add, Nat.mul_comm]; exact Nat.mul_lt_mul_of_pos_left hlow (Nat.two_pow_pos m)
    have hTj := hT (j * 2 ^ m) hj
    have ej : 2 ^ (10 - (m + 1 + t)) * (j * 2 ^ m) = 2 ^ (9 - t) * j := by
      rw [Nat.mul_comm j, ← Nat.mul_assoc, ← Nat.pow_add, show 10 - (m + 1 + t) + m = 9 - t by omega]
    rw [ej] at hTj
    exact bfly S hgc hu hv hTj (hF _) ha hc hca hb0 hd0 hb hd hw
  refine ⟨fun q hq hl => ⟨(key q hq hl).1, (key q hq hl).2.1, (key q hq hl).2.2.1⟩, ?_⟩
  intro q hq
  have hq' : q < 2 ^ (m + 1 + t) := by rwa [show m + (t + 1) = m + 1 + t by omega] at hq
  unfold stg
  rw [show 10 - (t + 1) = 9 - t by omega, ← hpt]
  by_cases hl : q % (2 * 2 ^ t) < 2 ^ t
  · rw [if_pos hl]
    exact (key q hq' hl).2.2.2.1
  · rw [if_neg hl]
    have hlt := Nat.mod_lt q (show 0 < 2 * 2 ^ t by omega)
    have hdm := Nat.div_add_mod q (2 * 2 ^ t)
    have hge : 2 ^ t ≤ q := by have := Nat.mod_le q (2 * 2 ^ t); omega
    have e1 : (q - 2 ^ t) % (2 * 2 ^ t) = q % (2 * 2 ^ t) - 2 ^ t := by
      have : q - 2 ^ t = (q % (2 * 2 ^ t) - 2 ^ t) + 2 * 2 ^ t * (q / (2 * 2 ^ t)) := by omega
      rw [this, Nat.add_mul_mod_self_left, Nat.mod_eq_of_lt (by omega)]
    have e2 : (q - 2 ^ t) / (2 * 2 ^ t) = q / (2 * 2 ^ t) := by
      have : q - 2 ^ t = (q % (2 * 2 ^ t) - 2 ^ t) + 2 * 2 ^ t * (q / (2 * 2 ^ t)) := by omega
      rw [this, Nat.add_mul_div_left _ _ (by omega), Nat.div_eq_of_lt (by omega), Nat.zero_add]
    have hk2 := (key (q - 2 ^ t) (by omega) (by rw [e1]; omega)).2.2.2.2
    rw [e1, e2, Nat.sub_add_cancel hge, Nat.sub_add_cancel (by omega)] at hk2
    exact hk2

end Go.Proofs.Ygctai
