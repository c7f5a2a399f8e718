/-
  IEEE doubles as whole numbers of units of 2^-1074. Plain: the words' own arithmetic, no Go in sight.
-/
import Ieee.Arith
namespace Go.Proofs.Ygctai
open Ieee
set_option linter.unusedVariables false

/-- A power of two, kept shut. -/
def pw (k : Nat) : Nat := 2 ^ k
theorem pw_pos (k : Nat) : 0 < pw k := Nat.two_pow_pos k
theorem pw_def (k : Nat) : 2 ^ k = pw k := rfl
theorem pw_add (a b : Nat) : pw (a + b) = pw a * pw b := Nat.pow_add 2 a b
theorem pw_mono {a b : Nat} (h : a ≤ b) : pw a ≤ pw b := Nat.pow_le_pow_right (by decide) h
theorem pw_lt {a b : Nat} (h : pw a < pw b) : a < b := (Nat.pow_lt_pow_iff_right (by decide)).1 h
theorem pw_strict {a b : Nat} (h : a < b) : pw a < pw b := Nat.pow_lt_pow_right (by decide) h
theorem pw_split {a b : Nat} (h : a ≤ b) : pw b = pw (b - a) * pw a := by rw [← pw_add, Nat.sub_add_cancel h]

/-- The magnitude of a word, in units of 2^-1074. -/
def rv (x : Nat) : Nat := if x % 2 ^ 63 < 2 ^ 52 then x % 2 ^ 63 else (2 ^ 52 + x % 2 ^ 63 % 2 ^ 52) * 2 ^ (x % 2 ^ 63 / 2 ^ 52 - 1)
/-- Its sign. -/
def sg (x : Nat) : Bool := x / 2 ^ 63 % 2 == 1
def sgn (s : Bool) (m : Nat) : Int := if s then -(m : Int) else m
/-- Its number, in units of 2^-1074. -/
def sc (x : Nat) : Int := sgn (sg x) (rv x)
/-- A finite word. -/
def Fn (x : Nat) : Prop := x < 2 ^ 64 ∧ x % 2 ^ 63 < 2047 * 2 ^ 52

theorem f_sign : double.signWeight = 2 ^ 63 := rfl
theorem f_bin : double.binade = 2 ^ 52 := rfl
theorem f_inf : double.infRung = 2047 * 2 ^ 52 := rfl
theorem f_least : double.leastPlace = -1074 := by decide
theorem f_frac : double.fractionBits = 52 := rfl

theorem read_fin {x : Nat} (h : Fn x) : ∃ m e : Nat, double.read x = .number (sg x) m ((e : Int) - 1074) ∧ m * pw e = rv x ∧ m < 2 ^ 53 := by
  unfold Format.read pw
  simp only [f_sign, f_bin, f_inf, f_least]
  by_cases h1 : x % 2 ^ 63 < 2 ^ 52
  · refine ⟨x % 2 ^ 63, 0, ?_, ?_, ?_⟩
    · rw [if_pos h1]; rfl
    · simp [rv, h1]
    · omega
  · have h2 := h.2
    refine ⟨2 ^ 52 + x % 2 ^ 63 % 2 ^ 52, x % 2 ^ 63 / 2 ^ 52 - 1, ?_, ?_, ?_⟩
    · rw [if_neg h1, if_pos h2]
      congr 1
    · rw [rv, if_neg h1]
    · have := Nat.mod_lt (x % 2 ^ 63) (show 0 < 2 ^ 52 by decide); omega

theorem word_lt (s : Bool) {r : Nat} (h : r < 2047 * 2 ^ 52) : Fn (double.word s r) ∧ sg (double.word s r) = s ∧ double.word s r % 2 ^ 63 = r := by
  unfold Format.word
  rw [f_sign]
  cases s
  · simp only [Bool.false_eq_true, if_false]
    refine ⟨⟨by omega, by omega⟩, ?_, by omega⟩
    unfold sg
    have : r / 2 ^ 63 % 2 = 0 := by omega
    rw [this]; rfl
  · simp only [if_true]
    refine ⟨⟨by omega, by omega⟩, ?_, by omega⟩
    unfold sg
    have : (2 ^ 63 + r) / 2 ^ 63 % 2 = 1 := by omega
    rw [this]; rfl

/-- The word of kept * 2^e. -/
theorem word_rv (s : Bool) {e k : Nat} (hk : k ≤ 2 ^ 53) (he : e = 0 ∨ 2 ^ 52 ≤ k) (hlt : e ≤ 2044) :
    Fn (double.word s (min (e * 2 ^ 52 + k) double.infRung)) ∧ sc (double.word s (min (e * 2 ^ 52 + k) double.infRung)) = sgn s (k * 2 ^ e) := by
  have hr : e * 2 ^ 52 + k < 2047 * 2 ^ 52 := by omega
  rw [f_inf, Nat.min_eq_left (by omega)]
  obtain ⟨h1, h2, h3⟩ := word_lt s hr
  refine ⟨h1, ?_⟩
  unfold sc
  rw [h2]
  congr 1
  unfold rv
  rw [h3]
  rcases Nat.lt_or_ge k (2 ^ 52) with hlow | hhi
  · have he0 : e = 0 := by omega
    subst he0
    rw [if_pos (by omega)]; simp
  · rw [if_neg (by omega)]
    rcases Nat.lt_or_ge k (2 ^ 53) with h4 | h4
    · have e1 : (e * 2 ^ 52 + k) / 2 ^ 52 = e + 1 := by omega
      have e2 : (e * 2 ^ 52 + k) % 2 ^ 52 = k - 2 ^ 52 := by omega
      rw [e1, e2, Nat.add_sub_cancel, Nat.add_sub_of_le hhi]
    · have hk' : k = 2 ^ 53 := by omega
      subst hk'
      have e1 : (e * 2 ^ 52 + 2 ^ 53) / 2 ^ 52 = e + 2 := by omega
      have e2 : (e * 2 ^ 52 + 2 ^ 53) % 2 ^ 52 = 0 := by omega
      rw [e1, e2, show e + 2 - 1 = e + 1 by omega]
      have e3 : (2 : Nat) ^ (e + 1) = 2 ^ e * 2 := Nat.pow_succ 2 e
      rw [e3]
      generalize (2 : Nat) ^ e = E
      omega

/-- To the nearest whole number. -/
theorem cut_near (s : Bool) (n d : Nat) : 2 * (Toward.even.cut s n d * 2 ^ d) ≤ 2 * n + 2 ^ d ∧ 2 * n ≤ 2 * (Toward.even.cut s n d * 2 ^ d) + 2 ^ d := by
  unfold Toward.cut
  simp only [Nat.shiftLeft_eq, Nat.one_mul]
  rcases Nat.lt_or_ge (n.log2 + 2) d with h | h
  · rw [Nat.min_eq_right (by omega)]
    have h1 : n < 2 ^ (n.log2 + 1) := Nat.lt_log2_self
    have h2 : (2 : Nat) ^ (n.log2 + 2) = 2 * 2 ^ (n.log2 + 1) := by rw [Nat.pow_succ 2 (n.log2 + 1), Nat.mul_comm]
    have h3 : (2 : Nat) ^ (n.log2 + 2) ≤ 2 ^ d := Nat.pow_le_pow_right (by decide) (by omega)
    have h4 : n / 2 ^ (n.log2 + 2) = 0 := Nat.div_eq_of_lt (by omega)
    have h5 : n % 2 ^ (n.log2 + 2) = n := Nat.mod_eq_of_lt (by omega)
    rw [h4, h5]
    have h6 : (decide (2 ^ (n.log2 + 2) < 2 * n) || (2 ^ (n.log2 + 2) == 2 * n && 0 % 2 == 1)) = false := by simp; omega
    rw [h6]
    simp
    omega
  · rw [Nat.min_eq_left (by omega)]
    have hd := Nat.div_add_mod n (2 ^ d)
    have hm := Nat.mod_lt n (Nat.two_pow_pos d)
    generalize hq : n / 2 ^ d = q at *
    generalize n % 2 ^ d = r at *
    generalize (2 : Nat) ^ d = g at *
    rw [Nat.mul_comm] at hd
    by_cases hb : (decide (g < 2 * r) || (g == 2 * r && q % 2 == 1)) = true
    · rw [hb]
      simp only [Bool.toNat_true, Nat.add_mul, Nat.one_mul]
      have : g ≤ 2 * r := by
        simp only [Bool.or_eq_true, decide_eq_true_eq, Bool.and_eq_true, beq_iff_eq] at hb
        omega
      omega
    · rw [Bool.not_eq_true] at hb
      rw [hb]
      simp only [Bool.toNat_false, Nat.add_zero]
      have : 2 * r ≤ g := by
        simp only [Bool.or_eq_false_iff, decide_eq_false_iff_not, Bool.and_eq_false_iff] at hb
        omega
      omega

theorem arith1 {U A G H : Nat} (h1 : 2 * U ≤ 2 * A + G) (h2 : 2 * A ≤ 2 * U + G) (h3 : G * 2 ^ 52 ≤ A) : U * 2 ^ 53 ≤ A * 2 ^ 53 + A + 2 ^ 52 * H ∧ A * 2 ^ 53 ≤ U * 2 ^ 53 + A + 2 ^ 52 * H := by
  omega

/-- THE ROUNDING: the word nearest to mag * 2^(p - 1074 - D), p a natural number: 'mag * pw p' is that number in units of 2^(-1074 - D). -/
theorem nearest_spec (s : Bool) (mag p D : Nat) (hbig : mag * pw p < pw (D + 2000)) :
    Fn (double.nearest s mag ((p : Int) - D - 1074)) ∧ ∃ v : Nat, sc (double.nearest s mag ((p : Int) - D - 1074)) = sgn s v ∧
      (v * pw D) * 2 ^ 53 ≤ mag * pw p * 2 ^ 53 + mag * pw p + 2 ^ 52 * pw D ∧ mag * pw p * 2 ^ 53 ≤ (v * pw D) * 2 ^ 53 + mag * pw p + 2 ^ 52 * pw D := by
  unfold pw at *
  unfold Format.nearest
  by_cases h0 : mag = 0
  · subst h0
    rw [if_pos rfl]
    obtain ⟨h1, h2, h3⟩ := word_lt s (r := 0) (by decide)
    refine ⟨h1, 0, ?_, by simp, by simp⟩
    unfold sc
    rw [h2]; congr 1
    unfold rv; rw [h3]; rfl
  · rw [if_neg h0]
    simp only [f_frac, f_least, f_bin]
    have hl1 : 2 ^ mag.log2 ≤ mag := Nat.log2_self_le h0
    have hl2 : mag < 2 ^ (mag.log2 + 1) := Nat.lt_log2_self
    -- the place of the last digit that is kept, in units from -1074 on
    obtain ⟨e, he, hcase⟩ : ∃ e : Nat, max ((p : Int) - D - 1074 + mag.log2 - (52 : Nat)) (-1074) = (e : Int) - 1074 ∧ ((e = 0 ∧ p + mag.log2 ≤ D + 52) ∨ e + D + 52 = p + mag.log2) := by
      rcases Nat.lt_or_ge (D + 52) (p + mag.log2) with h | h
      · exact ⟨p + mag.log2 - (D + 52), by omega, .inr (by omega)⟩
      · exact ⟨0, by omega, .inl ⟨rfl, h⟩⟩
    rw [he]
    have e1 : ((p : Int) - D - 1074 - ((e : Int) - 1074)).toNat = p - (e + D) := by omega
    have e2 : ((e : Int) - 1074 - ((p : Int) - D - 1074)).toNat = e + D - p := by omega
    have e3 : ((e : Int) - 1074 - -1074).toNat = e := by omega
    rw [e1, e2, e3]
    have hpow : mag.log2 + p < D + 2000 := by
      have : 2 ^ (mag.log2 + p) ≤ mag * 2 ^ p := by rw [Nat.pow_add]; exact Nat.mul_le_mul_right _ hl1
      exact (Nat.pow_lt_pow_iff_right (by decide)).1 (Nat.lt_of_le_of_lt this hbig)
    have he2 : e ≤ 2044 := by omega
    have hcn := cut_near s (mag <<< (p - (e + D))) (e + D - p)
    rw [Nat.shiftLeft_eq] at hcn ⊢
    generalize hK : Toward.even.cut s (mag * 2 ^ (p - (e + D))) (e + D - p) = K at *
    clear hK he e1 e2 e3 hbig hpow
    have hpp : ∀ x y : Nat, (2 : Nat) ^ (x + y) = 2 ^ x * 2 ^ y := fun x y => Nat.pow_add 2 x y
    have key : K ≤ 2 ^ 53 ∧ (e = 0 ∨ 2 ^ 52 ≤ K) ∧ (K * 2 ^ e * 2 ^ D) * 2 ^ 53 ≤ mag * 2 ^ p * 2 ^ 53 + mag * 2 ^ p + 2 ^ 52 * 2 ^ D ∧ mag * 2 ^ p * 2 ^ 53 ≤ (K * 2 ^ e * 2 ^ D) * 2 ^ 53 + mag * 2 ^ p + 2 ^ 52 * 2 ^ D := by
      rw [Nat.mul_assoc K, ← hpp e D]
      rcases Nat.lt_or_ge p (e + D) with hlt | hge
      · -- digits are dropped
        obtain ⟨d, hd⟩ : ∃ d, e + D = p + d := ⟨e + D - p, by omega⟩
        have ha : p - (e + D) = 0 := by omega
        have hb : e + D - p = d := by omega
        rw [ha, hb, Nat.pow_zero, Nat.mul_one] at hcn
        have hmul1 : 2 * (K * 2 ^ d) * 2 ^ p ≤ (2 * mag + 2 ^ d) * 2 ^ p := Nat.mul_le_mul_right _ hcn.1
        have hmul2 : 2 * mag * 2 ^ p ≤ (2 * (K * 2 ^ d) + 2 ^ d) * 2 ^ p := Nat.mul_le_mul_right _ hcn.2
        rw [Nat.add_mul] at hmul1 hmul2
        have hKp : K * 2 ^ (e + D) = K * 2 ^ d * 2 ^ p := by rw [hd, hpp, Nat.mul_assoc, Nat.mul_comm (2 ^ p)]
        have hpd : 2 ^ d * 2 ^ p = 2 ^ (e + D) := by rw [hd, hpp, Nat.mul_comm]
        rw [Nat.mul_assoc 2, Nat.mul_assoc 2, hpd] at hmul1 hmul2
        rw [← hKp] at hmul1 hmul2
        rcases hcase with ⟨he0, hle⟩ | heq
        · subst he0
          have hm : mag < 2 ^ (d + 53) := Nat.lt_of_lt_of_le hl2 (Nat.pow_le_pow_right (by decide) (by omega))
          rw [hpp] at hm
          rw [Nat.zero_add] at hmul1 hmul2 ⊢
          refine ⟨?_, .inl rfl, by omega, by omega⟩
          have h1 : 2 * (K * 2 ^ d) < (2 * 2 ^ 53 + 1) * 2 ^ d := by
            rw [Nat.add_mul, Nat.one_mul, Nat.mul_assoc]
            have := hcn.1
            rw [Nat.mul_comm (2 ^ d)] at hm
            omega
          rw [← Nat.mul_assoc] at h1
          have h2 := Nat.lt_of_mul_lt_mul_right h1
          omega
        · have hdl : mag.log2 = d + 52 := by omega
          have hm : mag < 2 ^ (d + 53) := Nat.lt_of_lt_of_le hl2 (Nat.pow_le_pow_right (by decide) (by omega))
          have hm2 : 2 ^ (d + 52) ≤ mag := by rw [← hdl]; exact hl1
          have hm3 : 2 ^ (e + D) * 2 ^ 52 ≤ mag * 2 ^ p := by
            have : 2 ^ (d + 52) * 2 ^ p ≤ mag * 2 ^ p := Nat.mul_le_mul_right _ hm2
            rwa [hpp, Nat.mul_right_comm, hpd] at this
          rw [hpp] at hm hm2
          rw [Nat.mul_comm (2 ^ d)] at hm hm2
          have ha1 := arith1 (H := 2 ^ D) hmul1 hmul2 hm3
          refine ⟨?_, .inr ?_, ha1.1, ha1.2⟩
          · have h1 : 2 * (K * 2 ^ d) < (2 * 2 ^ 53 + 1) * 2 ^ d := by
              rw [Nat.add_mul, Nat.one_mul, Nat.mul_assoc]
              have := hcn.1
              omega
            rw [← Nat.mul_assoc] at h1
            have h2 := Nat.lt_of_mul_lt_mul_right h1
            omega
          · have h1 : 2 * 2 ^ 52 * 2 ^ d ≤ (2 * K + 1) * 2 ^ d := by
              rw [Nat.add_mul, Nat.one_mul, Nat.mul_assoc, Nat.mul_assoc]
              have := hcn.2
              omega
            have h2 := Nat.le_of_mul_le_mul_right h1 (Nat.two_pow_pos d)
            omega
      · -- nothing is dropped
        obtain ⟨a, ha⟩ : ∃ a, p = a + (e + D) := ⟨p - (e + D), by omega⟩
        have hb : e + D - p = 0 := by omega
        have hb2 : p - (e + D) = a := by omega
        rw [hb, hb2, Nat.pow_zero, Nat.mul_one] at hcn
        have hKe : K = mag * 2 ^ a := by omega
        have hex : K * 2 ^ (e + D) = mag * 2 ^ p := by rw [hKe, Nat.mul_assoc, ← hpp, ← ha]
        rw [hex]
        have hup : K < 2 ^ (mag.log2 + 1 + a) := by rw [hKe, hpp]; exact Nat.mul_lt_mul_of_pos_right hl2 (Nat.two_pow_pos a)
        have hup2 : K < 2 ^ 53 := Nat.lt_of_lt_of_le hup (Nat.pow_le_pow_right (show 0 < 2 by decide) (by omega))
        refine ⟨Nat.le_of_lt hup2, ?_, by rw [Nat.add_assoc]; exact Nat.le_add_right _ _, by rw [Nat.add_assoc]; exact Nat.le_add_right _ _⟩
        rcases hcase with ⟨he0, _⟩ | heq
        · exact .inl he0
        · right
          have : 2 ^ (mag.log2 + a) ≤ K := by rw [hKe, hpp]; exact Nat.mul_le_mul_right _ hl1
          rwa [show mag.log2 + a = 52 by omega] at this
    obtain ⟨k1, k2, k3, k4⟩ := key
    obtain ⟨g1, g2⟩ := word_rv s k1 k2 he2
    exact ⟨g1, K * 2 ^ e, g2, k3, k4⟩

/-! ### the operations -/
theorem sgn_neg (s : Bool) (m : Nat) : sgn (!s) m = - sgn s m := by cases s <;> simp [sgn]
theorem signed_eq (s : Bool) (m k : Nat) : signed s m k = sgn s (m * pw k) := by
  unfold signed sgn pw; rw [Nat.shiftLeft_eq]
theorem sgn_mul (s t : Bool) (m n : Nat) : sgn (s ^^ t) (m * n) = sgn s m * sgn t n := by
  cases s <;> cases t <;> simp [sgn, Int.neg_mul, Int.mul_neg]
theorem sgn_mulR (b : Bool) (v s : Nat) : sgn b v * (s : Int) = sgn b (v * s) := by
  cases b <;> simp [sgn, Int.neg_mul]
theorem sgn_natAbs (b : Bool) (v : Nat) : (sgn b v).natAbs = v := by unfold sgn; split <;> omega
theorem sgn_abs (z : Int) (b : Bool) (h : z = 0 ∨ b = decide (z < 0)) : sgn b z.natAbs = z := by
  unfold sgn
  rcases h with h | h
  · subst h; cases b <;> rfl
  · subst h
    by_cases hz : z < 0
    · simp only [hz, decide_true, if_true]; omega
    · simp only [hz, decide_false, Bool.false_eq_true, if_false]; omega

/-- A sum: in units. -/
theorem add_spec {x y : Nat} (hx : Fn x) (hy : Fn y) (hb : (sc x + sc y).natAbs < pw 2000) :
    ∃ r, double.add x y = some r ∧ Fn r ∧ 2 ^ 53 * (sc r - (sc x + sc y)) ≤ (sc x + sc y).natAbs + 2 ^ 52 ∧ - ((sc x + sc y).natAbs + 2 ^ 52 : Int) ≤ 2 ^ 53 * (sc r - (sc x + sc y)) := by
  obtain ⟨m, i, hr1, hm1, _⟩ := read_fin hx
  obtain ⟨n, j, hr2, hm2, _⟩ := read_fin hy
  have hbase : min ((i : Int) - 1074) ((j : Int) - 1074) = ((min i j : Nat) : Int) - 1074 := by omega
  have hi2 : ((i : Int) - 1074 - (((min i j : Nat) : Int) - 1074)).toNat = i - min i j := by omega
  have hj2 : ((j : Int) - 1074 - (((min i j : Nat) : Int) - 1074)).toNat = j - min i j := by omega
  unfold Format.add
  rw [hr1, hr2]
  simp only [Datum.sum, Option.map_some, hbase, hi2, hj2]
  generalize hT : signed (sg x) m (i - min i j) + signed (sg y) n (j - min i j) = T
  have hsum : sc x + sc y = T * (pw (min i j) : Int) := by
    unfold sc
    rw [← hT, signed_eq, signed_eq, Int.add_mul, sgn_mulR, sgn_mulR, Nat.mul_assoc, Nat.mul_assoc, ← pw_split (Nat.min_le_left i j), ← pw_split (Nat.min_le_right i j), hm1, hm2]
  have habs : (sc x + sc y).natAbs = T.natAbs * pw (min i j) := by
    rw [hsum, Int.natAbs_mul]; rfl
  rw [habs] at hb
  simp only [Format.write]
  obtain ⟨g1, v, g2, g3, g4⟩ := nearest_spec (if T = 0 then sg x && sg y else decide (T < 0)) T.natAbs (min i j) 0 hb
  rw [show pw 0 = 1 from rfl, Nat.mul_one, Nat.mul_one] at g3 g4
  rw [Int.natCast_zero, Int.sub_zero] at g1 g2
  refine ⟨_, rfl, g1, ?_⟩
  rw [g2, habs]
  have hsg : sgn (if T = 0 then sg x && sg y else decide (T < 0)) (T.natAbs * pw (min i j)) = sc x + sc y := by
    rw [← sgn_mulR, sgn_abs, hsum]
    by_cases h : T = 0
    · exact .inl h
    · exact .inr (by rw [if_neg h])
  rw [← hsg]
  generalize (if T = 0 then sg x && sg y else decide (T < 0)) = b
  generalize T.natAbs * pw (min i j) = A at *
  unfold sgn
  cases b
  · simp only [Bool.false_eq_true, if_false]; omega
  · simp only [if_true]; omega

theorem arith2 {V A S : Nat} {x : Int} (h1 : V * 2 ^ 53 ≤ A * 2 ^ 53 + A + 2 ^ 52 * S) (h2 : A * 2 ^ 53 ≤ V * 2 ^ 53 + A + 2 ^ 52 * S) (b : Bool) :
    2 ^ 53 * (sgn b V - sgn b A) ≤ (A : Int) + 2 ^ 52 * S ∧ -((A : Int) + 2 ^ 52 * S) ≤ 2 ^ 53 * (sgn b V - sgn b A) := by
  unfold sgn
  cases b
  · simp only [Bool.false_eq_true, if_false]; omega
  · simp only [if_true]; omega

/-- A product: in units of 2^-1074 by units of 2^-1074. -/
theorem mul_spec {x y : Nat} (hx : Fn x) (hy : Fn y) (hb : (sc x * sc y).natAbs < pw 3074) :
    ∃ r, double.mul x y = some r ∧ Fn r ∧ 2 ^ 53 * (sc r * pw 1074 - sc x * sc y) ≤ (sc x * sc y).natAbs + 2 ^ 52 * pw 1074 ∧ - ((sc x * sc y).natAbs + 2 ^ 52 * pw 1074 : Int) ≤ 2 ^ 53 * (sc r * pw 1074 - sc x * sc y) := by
  obtain ⟨m, i, hr1, hm1, _⟩ := read_fin hx
  obtain ⟨n, j, hr2, hm2, _⟩ := read_fin hy
  have hprod : sc x * sc y = sgn (sg x ^^ sg y) (m * n * pw (i + j)) := by
    unfold sc; rw [← hm1, ← hm2, ← sgn_mul]; congr 1
    rw [pw_add, Nat.mul_assoc, Nat.mul_assoc, Nat.mul_left_comm n]
  have habs : (sc x * sc y).natAbs = m * n * pw (i + j) := by
    rw [hprod, sgn_natAbs]
  rw [habs] at hb
  unfold Format.mul
  rw [hr1, hr2]
  simp only [Datum.product, Option.map_some, Format.write]
  rw [show ((i : Int) - 1074 + ((j : Int) - 1074)) = ((i + j : Nat) : Int) - (1074 : Nat) - 1074 by omega]
  obtain ⟨g1, v, g2, g3, g4⟩ := nearest_spec (sg x ^^ sg y) (m * n) (i + j) 1074 hb
  refine ⟨_, rfl, g1, ?_⟩
  rw [g2, habs, hprod, sgn_mulR]
  exact arith2 (x := 0) g3 g4 _

/-- The other sign. -/
def fneg (x : Nat) : Nat := x ^^^ 2 ^ 63

theorem fneg_eq {x : Nat} (h : x < 2 ^ 64) : fneg x = if x < 2 ^ 63 then x + 2 ^ 63 else x - 2 ^ 63 := by
  unfold fneg
  split
  · rename_i hl
    have h1 := Nat.two_pow_add_eq_or_of_lt (i := 63) hl 1
    rw [Nat.mul_one] at h1
    rw [Nat.add_comm, h1]
    apply Nat.eq_of_testBit_eq
    intro i
    rw [Nat.testBit_xor, Nat.testBit_or, Nat.testBit_two_pow]
    by_cases e : 63 = i
    · subst e
      rw [Nat.testBit_lt_two_pow hl]; simp
    · simp [e]
  · rename_i hl
    obtain ⟨y, rfl⟩ : ∃ y, x = 2 ^ 63 + y := ⟨x - 2 ^ 63, by omega⟩
    have hy : y < 2 ^ 63 := by omega
    have h1 := Nat.two_pow_add_eq_or_of_lt (i := 63) hy 1
    rw [Nat.mul_one] at h1
    rw [Nat.add_sub_cancel_left, h1]
    apply Nat.eq_of_testBit_eq
    intro i
    rw [Nat.testBit_xor, Nat.testBit_or, Nat.testBit_two_pow]
    by_cases e : 63 = i
    · subst e
      rw [Nat.testBit_lt_two_pow hy]; simp
    · simp [e]

theorem fneg_spec {x : Nat} (h : Fn x) : Fn (fneg x) ∧ sc (fneg x) = - sc x ∧ double.read (fneg x) = (double.read x).opposite := by
  obtain ⟨h1, h2⟩ := h
  rw [fneg_eq h1]
  have hm : (if x < 2 ^ 63 then x + 2 ^ 63 else x - 2 ^ 63) % 2 ^ 63 = x % 2 ^ 63 := by split <;> omega
  have hs : sg (if x < 2 ^ 63 then x + 2 ^ 63 else x - 2 ^ 63) = !sg x := by
    unfold sg
    split
    · rename_i hl
      have e1 : (x + 2 ^ 63) / 2 ^ 63 % 2 = 1 := by omega
      have e2 : x / 2 ^ 63 % 2 = 0 := by omega
      rw [e1, e2]; rfl
    · rename_i hl
      have e1 : (x - 2 ^ 63) / 2 ^ 63 % 2 = 0 := by omega
      have e2 : x / 2 ^ 63 % 2 = 1 := by omega
      rw [e1, e2]; rfl
  have hf : Fn (if x < 2 ^ 63 then x + 2 ^ 63 else x - 2 ^ 63) := ⟨by split <;> omega, by rw [hm]; exact h2⟩
  refine ⟨hf, ?_, ?_⟩
  · unfold sc rv
    rw [hs, hm, sgn_neg]
  · generalize (if x < 2 ^ 63 then x + 2 ^ 63 else x - 2 ^ 63) = y at *
    unfold Format.read
    simp only [f_sign, f_bin, f_inf, f_least, hm]
    unfold sg at hs
    rw [hs]
    split
    · rfl
    · rfl

/-- A difference: in units. -/
theorem sub_spec {x y : Nat} (hx : Fn x) (hy : Fn y) (hb : (sc x - sc y).natAbs < pw 2000) :
    ∃ r, double.sub x y = some r ∧ Fn r ∧ 2 ^ 53 * (sc r - (sc x - sc y)) ≤ (sc x - sc y).natAbs + 2 ^ 52 ∧ - ((sc x - sc y).natAbs + 2 ^ 52 : Int) ≤ 2 ^ 53 * (sc r - (sc x - sc y)) := by
  obtain ⟨h1, h2, h3⟩ := fneg_spec hy
  have h := add_spec hx h1 (by rw [h2]; exact hb)
  rw [h2] at h
  obtain ⟨r, hr, rest⟩ := h
  refine ⟨r, ?_, rest⟩
  rw [← hr]
  unfold Format.add Format.sub
  rw [h3]

/-- The order. -/
theorem order_spec {x y : Nat} (hx : Fn x) (hy : Fn y) : double.order x y = some (compare (sc x) (sc y)) := by
  obtain ⟨m, i, hr1, hm1, _⟩ := read_fin hx
  obtain ⟨n, j, hr2, hm2, _⟩ := read_fin hy
  have hbase : min ((i : Int) - 1074) ((j : Int) - 1074) = ((min i j : Nat) : Int) - 1074 := by omega
  have hi2 : ((i : Int) - 1074 - (((min i j : Nat) : Int) - 1074)).toNat = i - min i j := by omega
  have hj2 : ((j : Int) - 1074 - (((min i j : Nat) : Int) - 1074)).toNat = j - min i j := by omega
  unfold Format.order
  rw [hr1, hr2]
  simp only [Datum.order, hbase, hi2, hj2, signed_eq]
  congr 1
  have e1 : sc x = sgn (sg x) (m * pw (i - min i j)) * (pw (min i j) : Int) := by unfold sc; rw [sgn_mulR, Nat.mul_assoc, ← pw_split (Nat.min_le_left i j), hm1]
  have e2 : sc y = sgn (sg y) (n * pw (j - min i j)) * (pw (min i j) : Int) := by unfold sc; rw [sgn_mulR, Nat.mul_assoc, ← pw_split (Nat.min_le_right i j), hm2]
  rw [e1, e2]
  have hp : (0 : Int) < (pw (min i j) : Int) := by have := pw_pos (min i j); omega
  generalize sgn (sg x) (m * pw (i - min i j)) = a
  generalize sgn (sg y) (n * pw (j - min i j)) = b
  generalize ((pw (min i j) : Nat) : Int) = c at *
  simp only [compare, compareOfLessAndEq]
  have h1 : a < b ↔ a * c < b * c := ⟨fun h => Int.mul_lt_mul_of_pos_right h hp, fun h => Int.lt_of_mul_lt_mul_right h (Int.le_of_lt hp)⟩
  have h2 : a = b ↔ a * c = b * c := ⟨fun h => by rw [h], fun h => Int.eq_of_mul_eq_mul_right (by omega) h⟩
  simp only [h1, h2]

/-- A whole number as a word. -/
theorem ofInt_spec (n : Int) (h : n.natAbs < 2 ^ 60) : Fn (double.write (.number (decide (n < 0)) n.natAbs 0)) ∧
    2 ^ 53 * (sc (double.write (.number (decide (n < 0)) n.natAbs 0)) - n * pw 1074) ≤ n.natAbs * pw 1074 + 2 ^ 52 ∧ -(n.natAbs * pw 1074 + 2 ^ 52 : Int) ≤ 2 ^ 53 * (sc (double.write (.number (decide (n < 0)) n.natAbs 0)) - n * pw 1074) := by
  have hb : n.natAbs * pw 1074 < pw (0 + 2000) := by
    have h1 : n.natAbs * pw 1074 < 2 ^ 60 * pw 1074 := Nat.mul_lt_mul_of_pos_right h (pw_pos _)
    rw [pw_def, ← pw_add] at h1
    exact Nat.lt_of_lt_of_le h1 (pw_mono (by decide))
  obtain ⟨g1, v, g2, g3, g4⟩ := nearest_spec (decide (n < 0)) n.natAbs 1074 0 hb
  rw [show ((1074 : Nat) : Int) - (0 : Nat) - 1074 = 0 by decide] at g1 g2
  refine ⟨g1, ?_⟩
  simp only [Format.write]
  rw [g2]
  rw [show pw 0 = 1 from rfl, Nat.mul_one] at g3 g4
  have e : n * (pw 1074 : Int) = sgn (decide (n < 0)) (n.natAbs * pw 1074) := by
    rw [← sgn_mulR, sgn_abs n _ (.inr rfl)]
  rw [e]
  have := arith2 (S := 1) (x := 0) g3 g4 (decide (n < 0))
  simpa using this

theorem cut_zero (s : Bool) (n d : Nat) : Toward.zero.cut s n d = n / pw d := by
  unfold Toward.cut pw
  simp only [Nat.shiftLeft_eq, Nat.one_mul, Bool.toNat_false, Nat.add_zero]
  rcases Nat.lt_or_ge (n.log2 + 2) d with h | h
  · rw [Nat.min_eq_right (by omega)]
    have h1 : n < 2 ^ (n.log2 + 1) := Nat.lt_log2_self
    have h2 : (2 : Nat) ^ (n.log2 + 1) ≤ 2 ^ (n.log2 + 2) := Nat.pow_le_pow_right (by decide) (by omega)
    have h3 : (2 : Nat) ^ (n.log2 + 1) ≤ 2 ^ d := Nat.pow_le_pow_right (by decide) (by omega)
    rw [Nat.div_eq_of_lt (by omega), Nat.div_eq_of_lt (by omega)]
  · rw [Nat.min_eq_left (by omega)]

/-- Cut towards zero. -/
theorem toInt_spec {x : Nat} (h : Fn x) : (double.read x).toInt .zero = some (sgn (sg x) (rv x / pw 1074)) := by
  obtain ⟨m, e, hr, hm, _⟩ := read_fin h
  rw [hr]
  simp only [Datum.toInt, Datum.integral, signed_eq, cut_zero, Nat.shiftLeft_eq, ← hm]
  rw [show pw 0 = 1 from rfl, Nat.mul_one]
  congr 2
  rcases Nat.lt_or_ge e 1074 with hl | hl
  · have e1 : ((e : Int) - 1074).toNat = 0 := by omega
    have e2 : (-((e : Int) - 1074)).toNat = 1074 - e := by omega
    rw [e1, e2, Nat.pow_zero, Nat.mul_one, pw_split (show e ≤ 1074 by omega), Nat.mul_div_mul_right _ _ (pw_pos e)]
  · have e1 : ((e : Int) - 1074).toNat = e - 1074 := by omega
    have e2 : (-((e : Int) - 1074)).toNat = 0 := by omega
    rw [e1, e2, pw_def, pw_split hl, ← Nat.mul_assoc, Nat.mul_div_cancel _ (pw_pos 1074), show pw 0 = 1 from rfl, Nat.div_one]

theorem arith3 {V A S T : Nat} (hT : 0 < T) (h1 : V * T * 2 ^ 53 ≤ A * T * 2 ^ 53 + A * T + 2 ^ 52 * (S * T)) (h2 : A * T * 2 ^ 53 ≤ V * T * 2 ^ 53 + A * T + 2 ^ 52 * (S * T)) :
    V * 2 ^ 53 ≤ A * 2 ^ 53 + A + 2 ^ 52 * S ∧ A * 2 ^ 53 ≤ V * 2 ^ 53 + A + 2 ^ 52 * S := by
  constructor
  · refine Nat.le_of_mul_le_mul_right (c := T) ?_ hT
    rw [Nat.add_mul, Nat.add_mul, Nat.mul_right_comm, Nat.mul_right_comm A, Nat.mul_assoc (2 ^ 52)]
    exact h1
  · refine Nat.le_of_mul_le_mul_right (c := T) ?_ hT
    rw [Nat.add_mul, Nat.add_mul, Nat.mul_right_comm, Nat.mul_right_comm V, Nat.mul_assoc (2 ^ 52)]
    exact h2

/-- A quotient by 2^k. -/
theorem div_spec {x y k : Nat} (hx : Fn x) (hy : double.read y = .number false (2 ^ 52) ((k : Int) - 52)) (hk : k ≤ 52) (hb : (sc x).natAbs < pw 2000) :
    ∃ r, double.div x y = some r ∧ Fn r ∧ 2 ^ 53 * (sc r * pw k - sc x) ≤ (sc x).natAbs + 2 ^ 52 * pw k ∧ - ((sc x).natAbs + 2 ^ 52 * pw k : Int) ≤ 2 ^ 53 * (sc r * pw k - sc x) := by
  obtain ⟨m, i, hr1, hm1, hm53⟩ := read_fin hx
  have hsx : sc x = sgn (sg x) (m * pw i) := by unfold sc; rw [← hm1]
  have habs : (sc x).natAbs = m * pw i := by rw [hsx, sgn_natAbs]
  rw [habs] at hb
  unfold Format.div
  rw [hr1, hy]
  simp only [Datum.quotient, f_frac, Bool.xor_false]
  rw [if_neg (by decide)]
  simp only [Option.map_some, Format.write]
  have hl52 : Nat.log2 (2 ^ 52) = 52 := Nat.log2_two_pow
  rw [hl52]
  have hlm : m.log2 ≤ 53 := by
    rcases Nat.eq_zero_or_pos m with e | e
    · subst e; simp
    · have := (Nat.log2_lt (by omega)).2 hm53; omega
  obtain ⟨q, hq⟩ : ∃ q, 52 + 2 + 52 - m.log2 = 52 + q := ⟨54 - m.log2, by omega⟩
  rw [hq, Nat.shiftLeft_eq, Nat.pow_add, Nat.mul_left_comm, Nat.mul_mod_right, Nat.mul_div_cancel_left _ (show 0 < 2 ^ 52 by decide)]
  simp only [bne_self_eq_false, Bool.toNat_false, Nat.add_zero]
  have hplace : ((i : Int) - 1074 - ((k : Int) - 52) - ((52 + q : Nat) : Int) - 1) = (i : Int) - ((k + (q + 1) : Nat) : Int) - 1074 := by omega
  have e2 : 2 * (m * 2 ^ q) = m * pw (q + 1) := by rw [pw_add, Nat.mul_comm 2, Nat.mul_assoc]; rfl
  rw [hplace, e2]
  have e3 : m * pw (q + 1) * pw i = m * pw i * pw (q + 1) := Nat.mul_right_comm _ _ _
  have hb2 : m * pw (q + 1) * pw i < pw (k + (q + 1) + 2000) := by
    have h1 : m * pw i * pw (q + 1) < pw 2000 * pw (q + 1) := Nat.mul_lt_mul_of_pos_right hb (pw_pos _)
    rw [← pw_add] at h1
    rw [e3]
    exact Nat.lt_of_lt_of_le h1 (pw_mono (by omega))
  obtain ⟨g1, v, g2, g3, g4⟩ := nearest_spec (sg x) (m * pw (q + 1)) i (k + (q + 1)) hb2
  refine ⟨_, rfl, g1, ?_⟩
  rw [g2, habs, hsx, sgn_mulR]
  rw [e3, pw_add k (q + 1), ← Nat.mul_assoc v] at g3 g4
  obtain ⟨k3, k4⟩ := arith3 (pw_pos (q + 1)) g3 g4
  exact arith2 (x := 0) k3 k4 _

end Go.Proofs.Ygctai
