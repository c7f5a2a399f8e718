/-
  The table of roots, the transforms there and back on doubles, the division: how near the sums come. Plain.
-/
import Derived.Test.YgctaiConv
namespace Go.Proofs.Ygctai
open Ieee
set_option linter.unusedVariables false
set_option linter.unusedSimpArgs false

/-- tw.Base, as words. -/
def base (t : Nat) : Cw :=
  if t = 0 then ⟨4607182418800017408, 0⟩ else if t = 1 then ⟨13830554455654793216, 0⟩ else if t = 2 then ⟨0, 13830554455654793216⟩
  else if t = 3 then ⟨4604544271217802189, 13827916308072577997⟩ else if t = 4 then ⟨4606496786581982534, 13823937468626282851⟩
  else if t = 5 then ⟨4607009347991985328, 13819568926757594635⟩ else if t = 6 then ⟨4607139046673687846, 13815099336824566828⟩
  else if t = 7 then ⟨4607171569234046334, 13810604255004710932⟩ else if t = 8 then ⟨4607179706000002317, 13806102785791583870⟩
  else if t = 9 then ⟨4607181740574479067, 13801599718827935620⟩ else if t = 10 then ⟨4607182249242036882, 13797096252370255985⟩
  else if t = 11 then ⟨4607182376410422530, 13792592686035543226⟩ else ⟨0, 0⟩

/-- That a pair of words stands for Z within 2^-53 each, by reckoning. -/
def nearB (a : Cw) (Z : Cx) : Bool :=
  decide (a.re < 2 ^ 64) && decide (a.re % 2 ^ 63 < 2047 * 2 ^ 52) && decide (a.im < 2 ^ 64) && decide (a.im % 2 ^ 63 < 2047 * 2 ^ 52) &&
  decide ((sc a.re - Z.re) * (sc a.re - Z.re) + (sc a.im - Z.im) * (sc a.im - Z.im) ≤ VV * VV)
theorem near_of {a : Cw} {Z : Cx} (h : nearB a Z = true) : Apx a Z 1 := by
  simp only [nearB, Bool.and_eq_true, decide_eq_true_eq] at h
  obtain ⟨⟨⟨⟨h1, h2⟩, h3⟩, h4⟩, h5⟩ := h
  refine ⟨⟨⟨h1, h2⟩, ⟨h3, h4⟩⟩, by have := vv_pos; omega, ?_⟩
  rw [Int.mul_one]; exact h5

theorem base_near : ∀ t, t < 11 → nearB (base t) (E (2 ^ (10 - t))) = true := by decide +kernel

theorem base_apx (t : Nat) (h : t ≤ 10) : Apx (base t) (E (2 ^ (10 - t))) 1 := near_of (base_near t (by omega))

/-- tw.Table after b doublings. -/
def tb (k : Nat) : Nat → (Nat → Cw)
  | 0 => fun _ => base 0
  | b + 1 => fun j => if j < 2 ^ b then tb k b j else wmul (tb k b (j - 2 ^ b)) (base (k - b))

theorem one_apx : Apx (base 0) (E 0) 0 := by
  have h := base_apx 0 (by decide)
  refine ⟨h.fin, ?_⟩
  have e : csub (base 0).z (E 0) = czero := cx_ext (by decide +kernel) (by decide +kernel)
  rw [e, Int.mul_zero]; exact nm_zero

theorem tb_apx {k : Nat} (hk : k ≤ 10) (b : Nat) (hb : b + 1 ≤ k) : (∀ j, j < 2 ^ b → Apx (tb k b j) (E (2 ^ (10 - k) * j)) (37 * b)) ∧
    (∀ c, c < b → ∀ j, j < 2 ^ c → WMulOk (tb k c j) (base (k - c))) := by
  induction b with
  | zero =>
    refine ⟨fun j hj => ?_, fun c hc => absurd hc (by omega)⟩
    obtain rfl : j = 0 := by rw [Nat.pow_zero] at hj; omega
    exact one_apx.mono (by simp)
  | succ b ih =>
    obtain ⟨ih1, ih2⟩ := ih (by omega)
    have key : ∀ j, j < 2 ^ b → WMulOk (tb k b j) (base (k - b)) ∧ Apx (wmul (tb k b j) (base (k - b))) (E (2 ^ (10 - k) * (2 ^ b + j))) (37 * ((b + 1 : Nat) : Int)) := fun j hj => by
      have h1 := ih1 j hj
      have h2 := base_apx (k - b) (by omega)
      have e : E (2 ^ (10 - k) * (2 ^ b + j)) = E (2 ^ (10 - k) * j + 2 ^ (10 - (k - b))) := by
        congr 1
        rw [Nat.mul_add, ← Nat.pow_add, show 10 - k + b = 10 - (k - b) by omega, Nat.add_comm]
      rw [e]
      have hw : Nm (csub (cmul (E (2 ^ (10 - k) * j)) (E (2 ^ (10 - (k - b))))) (csc SS (E (2 ^ (10 - k) * j + 2 ^ (10 - (k - b)))))) (SS * 8192) := (E_mul _ _).mono (by omega)
      have hV := vv_big
      obtain ⟨o, a⟩ := apx_mul (A := 1) (C := 1) h1 h2 ((nm_E _).mono (by omega)) ((nm_E _).mono (by omega)) hw (by decide) (by decide) (by decide) (by decide) (by omega) (by omega) (by omega) (by decide) (by omega) (by omega)
      exact ⟨o, a.mono (by omega)⟩
    refine ⟨fun j hj => ?_, fun c hc j hj => ?_⟩
    · rw [tb]
      dsimp only
      by_cases h : j < 2 ^ b
      · rw [if_pos h]; exact (ih1 j h).mono (by omega)
      · rw [if_neg h]
        have hj' : j - 2 ^ b < 2 ^ b := by rw [Nat.pow_succ] at hj; omega
        have := (key (j - 2 ^ b) hj').2
        rwa [Nat.add_sub_of_le (by omega)] at this
    · rcases Nat.lt_or_ge c b with h | h
      · exact ih2 c h j hj
      · obtain rfl : c = b := by omega
        exact (key j hj).1

theorem tb_full {k : Nat} (hk : k ≤ 10) (h1 : 1 ≤ k) : ∀ j, 2 * j < 2 ^ k → Apx (tb k (k - 1) j) (E (2 ^ (10 - k) * j)) 512 := fun j hj => by
  have h := (tb_apx hk (k - 1) (by omega)).1 j (by
    have : 2 ^ k = 2 ^ (k - 1) * 2 := by rw [← Nat.pow_succ]; congr 1; omega
    omega)
  exact h.mono (by omega)

/-- The conjugate table stands for the roots turned the other way. -/
theorem tb_conj {k : Nat} (hk : k ≤ 10) (h1 : 1 ≤ k) : ∀ j, 2 * j < 2 ^ k → Apx (wconj (tb k (k - 1) j)) (E (1023 * (2 ^ (10 - k) * j))) 513 := fun j hj => by
  have h := tb_full hk h1 j hj
  obtain ⟨f, e⟩ := wconj_ok h.fin
  refine ⟨f, ?_⟩
  rw [e]
  have h2 := h.err.conj
  have h3 := E_conj (2 ^ (10 - k) * j)
  have e2 : cadd (cconj (csub (tb k (k - 1) j).z (E (2 ^ (10 - k) * j)))) (csub (cconj (E (2 ^ (10 - k) * j))) (E (1023 * (2 ^ (10 - k) * j)))) = csub (cconj (tb k (k - 1) j).z) (E (1023 * (2 ^ (10 - k) * j))) := by
    refine cx_ext ?_ ?_ <;> · simp only [cadd, csub, cconj]; omega
  have h4 := h2.add h3
  rw [e2] at h4
  have := vv_big
  exact h4.mono (by omega)

/-- A digit as a word. -/
def ofd (d : Nat) : Nat := double.write (.number (decide ((d : Int) < 0)) (d : Int).natAbs 0)
theorem ofd_apx (d : Nat) (hd : d < 256) : Apx ⟨ofd d, 0⟩ (csc (d : Nat) (E 0)) 256 := by
  obtain ⟨h1, h2, h3⟩ := ofInt_spec (d : Int) (by omega)
  have f0 : Fn 0 := ⟨by decide, by decide⟩
  refine ⟨⟨h1, f0⟩, ?_⟩
  refine (nm_comp (z := csub (Cw.z ⟨ofd d, 0⟩) (csc (d : Nat) (E 0))) (a := VV * 255 + 1) (b := 0) ?_ ?_).mono ?_
  · have e : (csub (Cw.z ⟨ofd d, 0⟩) (csc (d : Nat) (E 0))).re = sc (ofd d) - (d : Int) * pw 1074 := rfl
    rw [e]
    unfold ofd
    have hS : (pw 1074 : Int) = 2 ^ 53 * VV := ss_vv
    have hdS : (d : Int) * (pw 1074 : Int) ≤ 255 * (pw 1074 : Int) := Int.mul_le_mul_of_nonneg_right (by omega) (by omega)
    have hn : ((d : Int).natAbs : Int) * (pw 1074 : Int) = (d : Int) * (pw 1074 : Int) := by rw [Int.natAbs_natCast]
    rw [hn] at h2 h3
    generalize (d : Int) * (pw 1074 : Int) = D at *
    omega
  · have e : (csub (Cw.z ⟨ofd d, 0⟩) (csc (d : Nat) (E 0))).im = 0 := by
      simp only [csub, Cw.z, csc, E_zero, Int.mul_zero, Int.sub_zero]; decide
    rw [e]; omega
  · have := vv_big; omega


/-- fft.points, as words. -/
def ptsw (f : Nat → Nat) (la : Nat) (i : Nat) : Cw := if i < la then ⟨ofd (f i), 0⟩ else ⟨0, 0⟩
/-- fft.Forward's words. -/
def fww (k : Nat) (tab P : Nat → Cw) : Nat → Cw := pss k tab (fun q => P (br k q)) k
def tabw (k : Nat) : Nat → Cw := tb k (k - 1)
def tabc (k : Nat) : Nat → Cw := fun j => wconj (tb k (k - 1) j)
def prdw (k : Nat) (f g : Nat → Nat) (la lb : Nat) : Nat → Cw := fun j => wmul (fww k (tabw k) (ptsw f la) j) (fww k (tabw k) (ptsw g lb) j)
def bckw (k : Nat) (f g : Nat → Nat) (la lb : Nat) : Nat → Cw := fww k (tabc k) (prdw k f g la lb)

/-- What a transform needs to be valid. -/
def FwOk (k : Nat) (tab P : Nat → Cw) : Prop := ∀ s, s < k → StgOk (2 ^ k) (2 ^ s) (2 ^ (k - s - 1)) tab (pss k tab (fun q => P (br k q)) s)

theorem br_lt (m s : Nat) : br m s < 2 ^ m := by
  induction m generalizing s with
  | zero => simp [br]
  | succ m ih =>
    rw [br, Nat.pow_succ]
    have h1 := ih (s / 2)
    rcases Nat.mod_two_eq_zero_or_one s with h | h <;> rw [h] <;> omega

theorem ptsw_apx {f : Nat → Nat} (hf : ∀ i, f i < 256) {la : Nat} (hz : ∀ i, la ≤ i → f i = 0) (i : Nat) : Apx (ptsw f la i) (xf f i 0) 256 := by
  unfold ptsw xf
  by_cases h : i < la
  · rw [if_pos h]; exact ofd_apx (f i) (hf i)
  · rw [if_neg h, hz i (by omega)]
    have f0 : Fn 0 := ⟨by decide, by decide⟩
    refine ⟨⟨f0, f0⟩, ?_⟩
    have e : csub (Cw.z ⟨0, 0⟩) (csc ((0 : Nat) : Int) (E 0)) = czero := cx_ext (by simp [csub, Cw.z, csc, czero]; decide) (by simp [csub, Cw.z, csc, czero]; decide)
    rw [e]; exact nm_zero.mono (by have := vv_pos; omega)

theorem vv_w1 : 1024 * 2097152 ≤ VV := by have := vv_big; omega
theorem vv_w2 : 1024 * 562949953421312 ≤ VV := by decide +kernel

theorem two_k {k : Nat} (hk : k ≤ 10) : ((2 ^ k : Nat) : Int) ≤ 1024 ∧ 1 ≤ ((2 ^ k : Nat) : Int) ∧ 2 ^ k ≤ 1024 := by
  have h1 : 2 ^ k ≤ 2 ^ 10 := Nat.pow_le_pow_right (by decide) hk
  have h2 := Nat.two_pow_pos k
  exact ⟨by omega, by omega, by omega⟩

/-- THERE. -/
theorem fwd_near {f : Nat → Nat} (hf : ∀ i, f i < 256) {la : Nat} (hz : ∀ i, la ≤ i → f i = 0) {k : Nat} (hk : k ≤ 10) (h1 : 1 ≤ k) :
    FwOk k (tabw k) (ptsw f la) ∧ ∀ q, q < 2 ^ k → Apx (fww k (tabw k) (ptsw f la) q) (DD (xf f) (2 ^ k) 1 (2 ^ (10 - k)) 0 q 0) 729022464 := by
  obtain ⟨a1, a2⟩ := pss_end (sq_xf hf) hk (X := fun q => ptsw f la (br k q)) (tab := tabw k) (b := 256) (d := 512) (fun q _ => ptsw_apx hf hz _) (tb_full hk h1) nm_E (by decide) (by decide) (by decide) (by decide) (by decide) (by decide) vv_w1 (by decide)
  refine ⟨a2, fun q hq => (a1 q hq).mono ?_⟩
  have hb := berr_eq 256 ((512 + 44) * 256) k
  obtain ⟨k1, k2, _⟩ := two_k hk
  have : (2 * 256 + (k : Int) * ((512 + 44) * 256)) ≤ 1423872 := by omega
  have h3 : ((2 ^ k : Nat) : Int) * (2 * 256 + (k : Int) * ((512 + 44) * 256)) ≤ 1024 * 1423872 := Int.mul_le_mul k1 this (by omega) (by decide)
  omega

theorem dd_xf {f : Nat → Nat} (hf : ∀ i, f i < 256) {k : Nat} (hk : k ≤ 10) (q : Nat) : Nm (DD (xf f) (2 ^ k) 1 (2 ^ (10 - k)) 0 q 0) (SS * 262144) := by
  refine (dd_size (sq_xf hf) _ _ _ _ _ _).mono ?_
  refine Int.mul_le_mul_of_nonneg_left ?_ (Int.le_of_lt ss_pos)
  obtain ⟨k1, _, _⟩ := two_k hk
  omega

/-- THE PRODUCTS. -/
theorem prd_near {f g : Nat → Nat} (hf : ∀ i, f i < 256) (hg : ∀ i, g i < 256) {la lb : Nat} (hz : ∀ i, la ≤ i → f i = 0) (hz2 : ∀ i, lb ≤ i → g i = 0) {k : Nat} (hk : k ≤ 10) (h1 : 1 ≤ k) (j : Nat) (hj : j < 2 ^ k) :
    WMulOk (fww k (tabw k) (ptsw f la) j) (fww k (tabw k) (ptsw g lb) j) ∧ Apx (prdw k f g la lb j) (yf f g (2 ^ k) (2 ^ (10 - k)) j 0) 384829069721602 := by
  have e1 := (fwd_near hf hz hk h1).2 j hj
  have e2 := (fwd_near hg hz2 hk h1).2 j hj
  obtain ⟨o, a⟩ := apx_mul (A := 262144) (C := 262144) e1 e2 (dd_xf hf hk j) (dd_xf hg hk j) (prod_xf hf hg (two_k hk).2.2 _ j) (by decide) (by decide) (by decide) (by decide) (by decide) (by decide) (by decide) (by decide) (by decide) (by have := vv_w2; omega)
  exact ⟨o, a.mono (by decide)⟩

/-- AND BACK. -/
theorem bck_near {f g : Nat → Nat} (hf : ∀ i, f i < 256) (hg : ∀ i, g i < 256) {la lb : Nat} (hz : ∀ i, la ≤ i → f i = 0) (hz2 : ∀ i, lb ≤ i → g i = 0) {k : Nat} (hk : k ≤ 10) (h1 : 1 ≤ k) :
    FwOk k (tabc k) (prdw k f g la lb) ∧ ∀ q, q < 2 ^ k → Apx (bckw k f g la lb q) ⟨(cvs f g (2 ^ k) q : Int) * ((2 ^ k : Nat) * SS), 0⟩ ((2 ^ k : Nat) * 577000000000000) := by
  obtain ⟨a1, a2⟩ := pss_end (sq_yf hf hg (two_k hk).2.2 (2 ^ (10 - k))) hk (X := fun q => prdw k f g la lb (br k q)) (tab := tabc k) (b := 384829069721602) (d := 513)
    (fun q _ => (prd_near hf hg hz hz2 hk h1 _ (br_lt k q)).2) (tb_conj hk h1) (fun q => nm_E _) (by decide) (by decide) (by decide) (by decide) (by decide) (by decide) vv_w2 (by decide)
  refine ⟨a2, fun q hq => ?_⟩
  have h := a1 q hq
  rw [back_eq f g k hk q] at h
  refine h.mono ?_
  have hb := berr_eq 384829069721602 ((513 + 44) * 68719476736) k
  obtain ⟨k1, k2, _⟩ := two_k hk
  have h3 : (2 * 384829069721602 + (k : Int) * ((513 + 44) * 68719476736)) ≤ 2 * 577000000000000 := by omega
  have h4 : ((2 ^ k : Nat) : Int) * (2 * 384829069721602 + (k : Int) * ((513 + 44) * 68719476736)) ≤ ((2 ^ k : Nat) : Int) * (2 * 577000000000000) := Int.mul_le_mul_of_nonneg_left h3 (by omega)
  omega


theorem nw_read : ∀ k : Nat, k < 11 → double.read (ofd (2 ^ k)) = .number false (2 ^ 52) ((k : Int) - 52) := by decide +kernel

theorem bd_cancel {x n C : Int} (hn : 0 < n) (h : Bd (x * n) (C * n)) : Bd x C := by
  obtain ⟨h1, h2⟩ := h
  refine ⟨?_, Int.le_of_mul_le_mul_right h2 hn⟩
  rw [← Int.neg_mul] at h1
  exact Int.le_of_mul_le_mul_right h1 hn

/-- One part divided by n. -/
theorem div_part {x y k : Nat} {c : Int} (hk : k ≤ 10) (hx : Fn x) (hy : double.read y = .number false (2 ^ 52) ((k : Int) - 52)) (h : Bd (sc x - c * ((2 ^ k : Nat) * SS)) (VV * ((2 ^ k : Nat) * 577000000000000)))
    (hc : Bd (c * ((2 ^ k : Nat) * SS)) (SS * ((2 ^ k : Nat) * 68719476736))) : DivOk x y ∧ Bd (sc (fdiv x y) - c * SS) (VV * 577100000000000) := by
  obtain ⟨k1, k2, _⟩ := two_k hk
  have hV := vv_big
  have hS := ss_vv
  have hp : ((pw k : Nat) : Int) = ((2 ^ k : Nat) : Int) := rfl
  generalize hn : ((2 ^ k : Nat) : Int) = n at *
  have e1 : VV * (n * 577000000000000) = 577000000000000 * (VV * n) := by simp only [Int.mul_assoc, Int.mul_comm, Int.mul_left_comm]
  have e2 : SS * (n * 68719476736) = 68719476736 * (2 ^ 53 * (VV * n)) := by rw [hS]; simp only [Int.mul_assoc, Int.mul_comm, Int.mul_left_comm]
  have e3 : c * (n * SS) = c * SS * n := by simp only [Int.mul_assoc, Int.mul_comm, Int.mul_left_comm]
  have hVn : n ≤ VV * n := by
    have := Int.mul_le_mul_of_nonneg_right (show 1 ≤ VV by omega) (show 0 ≤ n by omega)
    omega
  have hVn2 : VV * n ≤ VV * 1024 := Int.mul_le_mul_of_nonneg_left k1 (by omega)
  rw [e1] at h
  rw [e2] at hc
  rw [e3] at h hc
  have hb : Bd (sc x) (68719476737 * (2 ^ 53 * (VV * n))) := by
    unfold Bd at *
    generalize c * SS * n = D at *
    generalize VV * n = Q at *
    omega
  have hbig : 68719476737 * (2 ^ 53 * (VV * 1024)) < (pw 2000 : Int) := by decide +kernel
  obtain ⟨o, er⟩ := fdiv_ok hx hy (by omega) hb (by omega)
  refine ⟨o, bd_cancel (n := n) (by omega) ?_⟩
  rw [hp] at er
  have e4 : VV * 577100000000000 * n = 577100000000000 * (VV * n) := by simp only [Int.mul_assoc, Int.mul_comm, Int.mul_left_comm]
  rw [e4, Int.sub_mul]
  unfold Bd at *
  generalize c * SS * n = D at *
  generalize VV * n = Q at *
  generalize sc (fdiv x y) * n = R at *
  omega

/-- THE SUMS, BY DOUBLES. -/
theorem fin_near {f g : Nat → Nat} (hf : ∀ i, f i < 256) (hg : ∀ i, g i < 256) {la lb : Nat} (hz : ∀ i, la ≤ i → f i = 0) (hz2 : ∀ i, lb ≤ i → g i = 0) {k : Nat} (hk : k ≤ 10) (h1 : 1 ≤ k) (q : Nat) (hq : q < 2 ^ k) :
    DivOk (bckw k f g la lb q).re (ofd (2 ^ k)) ∧ DivOk (bckw k f g la lb q).im (ofd (2 ^ k)) ∧ Bd (sc (fdiv (bckw k f g la lb q).re (ofd (2 ^ k))) - (cvs f g (2 ^ k) q : Int) * SS) (VV * 577100000000000) ∧
      Bd (sc (fdiv (bckw k f g la lb q).im (ofd (2 ^ k)))) (VV * 577100000000000) ∧ cvs f g (2 ^ k) q ≤ 68719476736 := by
  have h := (bck_near hf hg hz hz2 hk h1).2 q hq
  have hsz := dd_size (sq_yf hf hg (two_k hk).2.2 (2 ^ (10 - k))) (2 ^ k) 1 (2 ^ (10 - k)) 0 q 0
  rw [back_eq f g k hk q] at hsz
  have hr := nw_read k (by omega)
  obtain ⟨o1, d1⟩ := div_part hk h.fin.1 hr h.err.re hsz.re
  obtain ⟨o2, d2⟩ := div_part (c := 0) hk h.fin.2 hr (by rw [Int.zero_mul, Int.sub_zero]; have := h.err.im; simp only [csub, Cw.z, Int.sub_zero] at this; exact this) (by rw [Int.zero_mul]; have := hsz.1; exact ⟨by omega, by omega⟩)
  rw [Int.zero_mul, Int.sub_zero] at d2
  refine ⟨o1, o2, d1, d2, ?_⟩
  have h3 := hsz.re.2
  obtain ⟨_, k2, _⟩ := two_k hk
  have h4 : (cvs f g (2 ^ k) q : Int) * (((2 ^ k : Nat) : Int) * SS) ≤ 68719476736 * (((2 ^ k : Nat) : Int) * SS) := by
    have e : SS * (((2 ^ k : Nat) : Int) * 68719476736) = 68719476736 * (((2 ^ k : Nat) : Int) * SS) := by simp only [Int.mul_assoc, Int.mul_comm, Int.mul_left_comm]
    rw [← e]; exact h3
  have h5 := Int.le_of_mul_le_mul_right h4 (Int.mul_pos (by omega) ss_pos)
  omega

end Go.Proofs.Ygctai
