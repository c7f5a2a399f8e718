/-
  mlong, plain: sums over blocks.
-/
import Derived.Test.YgctaiNJ
import Derived.Test.YgctaiMulG
namespace Go.Proofs.Ygctai
open Go.RowKit
set_option linter.unusedVariables false

/-- Sums to a base. -/
def bsq (q : Nat) (c : Nat → Nat) (n : Nat) : Nat := nsum (fun i => c i * q ^ i) n
/-- Sums of products make the product. -/
theorem lc_prodq (q : Nat) (f g : Nat → Nat) (n : Nat) (hz : ∀ i, n ≤ i → f i = 0) (hz2 : ∀ i, n ≤ i → g i = 0) : bsq q (lc f g) (2 * n) = bsq q f n * bsq q g n := by
  unfold bsq lc
  -- over a square of 2n by 2n
  have e1 : nsum (fun m => nsum (fun i => f i * g (m - i)) (m + 1) * q ^ m) (2 * n) = nsum (fun m => nsum (fun i => if i ≤ m then f i * g (m - i) * q ^ m else 0) (2 * n)) (2 * n) := nsum_congr _ fun m hm => by
    rw [nsum_mul, nsum_ext (m := m + 1) (n := 2 * n) (by omega) (fun i h1 h2 => if_neg (by omega))]
    exact nsum_congr _ fun i hi => by rw [if_pos (by omega)]
  rw [e1, nsum_swap]
  have e2 : ∀ i, i < 2 * n → nsum (fun m => if i ≤ m then f i * g (m - i) * q ^ m else 0) (2 * n) = f i * q ^ i * bsq q g n := fun i hi => by
    rcases Nat.lt_or_ge i n with h | h
    · -- shift by i
      have e3 : ∀ k, k ≤ 2 * n → i ≤ k → nsum (fun m => if i ≤ m then f i * g (m - i) * q ^ m else 0) k = f i * q ^ i * nsum (fun j => g j * q ^ j) (k - i) := fun k => by
        induction k with
        | zero => intro _ h0; rw [Nat.zero_sub]; simp [nsum]
        | succ k ih =>
          intro hk hik
          rcases Nat.eq_or_lt_of_le hik with e | e
          · rw [← e, Nat.sub_self]
            rw [nsum_zero _ (fun m hm => if_neg (by omega))]; simp [nsum]
          · rw [nsum, ih (by omega) (by omega), if_pos (by omega), show k + 1 - i = k - i + 1 by omega, nsum, Nat.mul_add]
            congr 1
            rw [Nat.mul_assoc (f i), Nat.mul_assoc (f i), Nat.mul_left_comm (q ^ i), ← Nat.pow_add, show i + (k - i) = k by omega]
      rw [e3 (2 * n) (Nat.le_refl _) (by omega)]
      congr 1
      rw [nsum_ext (m := n) (by omega) (fun j h1 h2 => by rw [hz2 j h1, Nat.zero_mul])]
      rfl
    · rw [hz i h, Nat.zero_mul, Nat.zero_mul]
      exact nsum_zero _ fun m hm => by split <;> simp
  rw [nsum_congr _ e2, ← nsum_mul, nsum_ext (m := n) (by omega) (fun i h1 h2 => by rw [hz i h1, Nat.zero_mul])]
  rfl

theorem csv_bsq (c : Nat → Nat) (n : Nat) : csv c n = bsq 256 c n := rfl
theorem csv_add (c g : Nat → Nat) (n : Nat) : csv (fun i => c i + g i) n = csv c n + csv g n := by
  unfold csv; rw [nsum_add]; exact nsum_congr _ fun i _ => Nat.add_mul _ _ _
theorem csv_congr {c g : Nat → Nat} (n : Nat) (h : ∀ i, i < n → c i = g i) : csv c n = csv g n := nsum_congr _ fun i hi => by rw [h i hi]
/-- B laid at s. -/
def layAt (B : Nat → Nat) (s N : Nat) : Nat → Nat := fun t => if t < s then 0 else if t < s + N then B (t - s) else 0
theorem csv_lay (B : Nat → Nat) (s N L : Nat) (h : s + N ≤ L) : csv (layAt B s N) L = 256 ^ s * csv B N := by
  unfold csv
  rw [nsum_ext (m := s + N) h (fun i h1 h2 => by unfold layAt; rw [if_neg (by omega), if_neg (by omega), Nat.zero_mul]), nsum_app, nsum_zero s (fun i hi => by unfold layAt; rw [if_pos hi, Nat.zero_mul]), Nat.zero_add, Nat.mul_comm, nsum_mul]
  refine nsum_congr _ fun i hi => ?_
  unfold layAt
  rw [if_neg (by omega), if_pos (by omega), Nat.add_sub_cancel_left, Nat.pow_add, Nat.mul_assoc, Nat.mul_comm (256 ^ s)]
theorem csv_nsum (F : Nat → Nat → Nat) (m n : Nat) : csv (fun j => nsum (fun i => F i j) m) n = nsum (fun i => csv (F i) n) m := by
  unfold csv
  rw [← nsum_swap]
  exact nsum_congr _ fun j _ => nsum_mul _ _ _

/-- Block c of the first la digits. -/
def bk (f : Nat → Nat) (la size c : Nat) : Nat → Nat := fun i => if i < size then cutf f la (c * size + i) else 0
theorem bk_ge {f : Nat → Nat} {la size c i : Nat} (h : size ≤ i) : bk f la size c i = 0 := if_neg (by omega)
theorem bk_lt {f : Nat → Nat} (hf : Byt f) (la size c i : Nat) : bk f la size c i < 256 := by
  unfold bk; split
  · exact byt_cutf hf _ _
  · omega
/-- The number in it. -/
def bv (f : Nat → Nat) (la size c : Nat) : Nat := csv (bk f la size c) size
theorem bv_ge {f : Nat → Nat} {la size c n : Nat} (h : la ≤ n * size) (hc : n ≤ c) : bv f la size c = 0 := by
  refine nsum_zero _ fun i hi => ?_
  have := Nat.mul_le_mul_right size hc
  unfold bk
  rw [if_pos hi, cutf_ge f (by omega), Nat.zero_mul]
theorem bv_val (f : Nat → Nat) (la size : Nat) : ∀ n, bsq (256 ^ size) (bv f la size) n = val (cutf f la) (n * size)
  | 0 => by rw [Nat.zero_mul]; rfl
  | n + 1 => by
    have ih := bv_val f la size n
    unfold bsq at ih ⊢
    rw [nsum, ih, Nat.add_mul, Nat.one_mul, val_split, Nat.mul_comm (256 ^ (n * size))]
    congr 1
    rw [← Nat.pow_mul, Nat.mul_comm size n]
    congr 1
    unfold bv
    rw [← val_csv]
    exact val_congr _ fun i hi => if_pos hi
theorem bv_all {f : Nat → Nat} {la size n : Nat} (h : la ≤ n * size) : bsq (256 ^ size) (bv f la size) n = val f la := by
  rw [bv_val, val_high (m := la) h (fun i h1 _ => cutf_ge f h1)]
  exact val_congr _ fun i hi => cutf_lt f hi

/-- What place m of the blocks' sums adds. -/
def dm (f g : Nat → Nat) (la lb size N lo cnt m : Nat) (j : Nat) : Nat := nsum (fun i => cvs (bk f la size (lo + i)) (bk g lb size (m - (lo + i))) N j) cnt
theorem cvs_bv (f g : Nat → Nat) {la lb size N k : Nat} (hk : k ≤ 10) (hN : N = 2 ^ k) (hN2 : N = 2 * size) (c d : Nat) : csv (cvs (bk f la size c) (bk g lb size d) N) N = bv f la size c * bv g lb size d := by
  have h1 : N ∣ 1024 := by
    rw [hN]; exact ⟨2 ^ (10 - k), by rw [← Nat.pow_add, show k + (10 - k) = 10 by omega]⟩
  have h0 : 0 < N := by rw [hN]; exact Nat.two_pow_pos _
  rw [csv_congr N fun i hi => cvs_lc (la := size) (lb := size) (fun i h => bk_ge h) (fun i h => bk_ge h) h1 h0 (by omega) hi, hN2, lc_prod _ _ _ (fun i h => bk_ge h) (fun i h => bk_ge h)]
  rfl
theorem dm_csv (f g : Nat → Nat) {la lb size N k : Nat} (hk : k ≤ 10) (hN : N = 2 ^ k) (hN2 : N = 2 * size) (lo cnt m : Nat) : csv (dm f g la lb size N lo cnt m) N = nsum (fun i => bv f la size (lo + i) * bv g lb size (m - (lo + i))) cnt := by
  unfold dm
  rw [csv_nsum]
  exact nsum_congr _ fun i _ => cvs_bv f g hk hN hN2 _ _
/-- lo and the count at m. -/
theorem dm_lc {f g : Nat → Nat} {la lb size nx ny lo hi m : Nat} (hx : la ≤ nx * size) (hy : lb ≤ ny * size) (hlo : lo = m + 1 - ny) (hhi : hi = min nx (m + 1)) (hle : lo ≤ hi) : nsum (fun i => bv f la size (lo + i) * bv g lb size (m - (lo + i))) (hi - lo) = lc (bv f la size) (bv g lb size) m := by
  unfold lc
  rw [nsum_ext (m := hi) (n := m + 1) (by omega) (fun i h1 h2 => by rw [bv_ge hx (by omega), Nat.zero_mul]), show hi = lo + (hi - lo) by omega, nsum_app, nsum_zero lo (fun i h => by rw [bv_ge hy (by omega), Nat.mul_zero]), Nat.zero_add, show lo + (hi - lo) - lo = hi - lo by omega]
/-- All of it. -/
theorem mul_blocks {f g : Nat → Nat} {la lb size nx ny : Nat} (hx : la ≤ nx * size) (hy : lb ≤ ny * size) : nsum (fun m => 256 ^ (m * size) * lc (bv f la size) (bv g lb size) m) (nx + ny - 1) = val f la * val g lb := by
  have h1 := lc_prodq (256 ^ size) (bv f la size) (bv g lb size) (nx + ny) (fun i h => bv_ge hx (by omega)) (fun i h => bv_ge hy (by omega))
  rw [bv_all (n := nx + ny) (by have := Nat.mul_le_mul_right size (show nx ≤ nx + ny by omega); omega), bv_all (n := nx + ny) (by have := Nat.mul_le_mul_right size (show ny ≤ nx + ny by omega); omega)] at h1
  rw [← h1]
  unfold bsq
  rw [nsum_ext (m := nx + ny - 1) (n := 2 * (nx + ny)) (by omega) (fun i h2 h3 => by rw [lc_zero (fun i h => bv_ge hx h) (fun i h => bv_ge hy h) h2, Nat.zero_mul])]
  exact nsum_congr _ fun m _ => by rw [Nat.mul_comm, Nat.mul_comm m size, Nat.pow_mul]
theorem cvs_le {f g : Nat → Nat} (hf : ∀ i, f i < 256) (hg : ∀ i, g i < 256) {size N m k : Nat} (hk : k ≤ 10) (hN : N = 2 ^ k) (hN2 : N = 2 * size) (hz : ∀ i, size ≤ i → f i = 0) (hz2 : ∀ i, size ≤ i → g i = 0) (hm : m < N) : cvs f g N m ≤ size * 65025 := by
  have h1 : N ∣ 1024 := by
    rw [hN]; exact ⟨2 ^ (10 - k), by rw [← Nat.pow_add, show k + (10 - k) = 10 by omega]⟩
  have h0 : 0 < N := by rw [hN]; exact Nat.two_pow_pos _
  rw [cvs_lc hz hz2 h1 h0 (by omega) hm]
  have e2 : ∀ n, nsum (fun _ => 65025) n = n * 65025 := fun n => by induction n with | zero => rfl | succ n ih => rw [nsum, ih]; omega
  have e3 : ∀ n, nsum (fun i => f i * g (m - i)) n ≤ nsum (fun _ => 65025) (min n size) := fun n => by
    induction n with
    | zero => exact Nat.zero_le _
    | succ n ih =>
      rw [nsum]
      rw [e2] at ih ⊢
      rcases Nat.lt_or_ge n size with h | h
      · have h5 : f n * g (m - n) ≤ 255 * 255 := Nat.mul_le_mul (by have := hf n; omega) (by have := hg (m - n); omega)
        rw [Nat.min_eq_left (by omega)] at ih ⊢; omega
      · rw [hz n h, Nat.zero_mul, Nat.min_eq_right (by omega)]
        rw [Nat.min_eq_right (by omega)] at ih; omega
  refine Nat.le_trans (e3 _) ?_
  rw [e2]
  exact Nat.mul_le_mul_right _ (Nat.min_le_right _ _)
theorem dm_lt {f g : Nat → Nat} (hf : Byt f) (hg : Byt g) {la lb size N lo cnt m j k : Nat} (hk : k ≤ 10) (hN : N = 2 ^ k) (hN2 : N = 2 * size) (hs : size ≤ 512) (hc : cnt ≤ 29) (hj : j < N) : dm f g la lb size N lo cnt m j < 998244353 := by
  unfold dm
  have e : ∀ n, nsum (fun i => cvs (bk f la size (lo + i)) (bk g lb size (m - (lo + i))) N j) n ≤ n * (512 * 65025) := fun n => by
    induction n with
    | zero => simp [nsum]
    | succ n ih =>
      rw [nsum]
      have := cvs_le (f := bk f la size (lo + n)) (g := bk g lb size (m - (lo + n))) (bk_lt hf _ _ _) (bk_lt hg _ _ _) hk hN hN2 (fun i h => bk_ge h) (fun i h => bk_ge h) hj
      omega
  have := e cnt
  omega
/-- What comes back. -/
theorem back_dm {f g : Nat → Nat} (hf : Byt f) (hg : Byt g) {la lb size N lo cnt m k : Nat} (hk : k ≤ 10) (hN : N = 2 ^ k) (hN2 : N = 2 * size) (hs : size ≤ 512) (hc : cnt ≤ 29) {S Y : Nat → Nat}
    (hS : ∀ j, j < N → Eqm (S j) (nsum (fun i => FM (rtk k) (bk f la size (lo + i)) N j * FM (rtk k) (bk g lb size (m - (lo + i))) N j) cnt)) (hY : ∀ j, j < N → Y j < 998244353 ∧ Eqm (Y j * N) (FM (irt k) S N j)) (j : Nat) (hj : j < N) : Y j = dm f g la lb size N lo cnt m j := by
  obtain ⟨z, hz⟩ : ∃ z : Nat, z = 1023 := ⟨_, rfl⟩
  have hv : Eqm (irt k) (rtk k ^ z) := root_inv hk (rtk_rtm hk) (fun e he => irt_eqm k e he) hz
  obtain ⟨h1, h2⟩ := hY j hj
  have h3 : Eqm (Y j * N) (N * dm f g la lb size N lo cnt m j) := by
    refine h2.trans ((fm_eqm (Eqm.refl _) N j hS).trans ?_)
    have e1 : FM (irt k) (fun j => nsum (fun i => FM (rtk k) (bk f la size (lo + i)) N j * FM (rtk k) (bk g lb size (m - (lo + i))) N j) cnt) N j = nsum (fun i => FM (irt k) (fun j => FM (rtk k) (bk f la size (lo + i)) N j * FM (rtk k) (bk g lb size (m - (lo + i))) N j) N j) cnt := by
      unfold FM
      rw [← nsum_swap]
      exact nsum_congr _ fun a _ => nsum_mul _ _ _
    rw [e1]
    unfold dm
    rw [Nat.mul_comm N, nsum_mul]
    refine nsum_eqm _ fun i _ => ?_
    subst hN
    rw [Nat.mul_comm _ (2 ^ k)]
    exact back_prod hz (rtk_rtm hk) hv _ _ j
  have h4 : ∃ u, Eqm (u * N) 1 := by
    obtain ⟨e, he⟩ : ∃ e : Nat, e = 998244351 := ⟨_, rfl⟩
    exact ⟨(2 ^ k) ^ e, by rw [hN]; exact len_inv fun e' he' => by rw [he, he']; exact Eqm.refl _⟩
  obtain ⟨u, hu⟩ := h4
  have h5 := (Eqm.refl u).mul h3
  rw [Nat.mul_comm (Y j), ← Nat.mul_assoc, ← Nat.mul_assoc] at h5
  have h6 := (hu.mul (Eqm.refl (Y j))).symm.trans (h5.trans (hu.mul (Eqm.refl (dm f g la lb size N lo cnt m j))))
  rw [Nat.one_mul, Nat.one_mul] at h6
  exact eqm_lt h6 h1 (dm_lt hf hg hk hN hN2 hs hc hj)
end Go.Proofs.Ygctai
