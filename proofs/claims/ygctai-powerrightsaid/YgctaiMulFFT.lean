/-
  fft.RoundAll, fft.Convolve, mfft.MulFFT.
-/
import Derived.Test.YgctaiFftE
import Derived.Test.YgctaiCarry
namespace Go.Proofs.Ygctai
open Go.RowKit
set_option linter.unusedVariables false

theorem Taig.info2 : (Taig.prog.info? 2).map (fun i => (i.zero, i.size, i.bytes)) = some (some (.int .i64 0), 1, 8) := by kernel_rfl
/-- 'make([]int64, n)'. -/
theorem make96 (n : Nat) (hn : n ≤ 1099511627776) (w : World) : (Instr.makeSlice 96 (.int .i64 (n : Int)) (.int .i64 (n : Int))).run Taig.prog w = .ok (.slice (some ⟨w.heap.size, 0, none⟩) n n) (w.alloc (made (.int .i64 0) n 2)) :=
  run_make_row' 96 2 (.int .i64 0) 8 Taig.underlying96 Taig.info2 rfl .i64 .i64 n (by omega) (by omega) w

set_option maxRecDepth 100000 in
set_option maxHeartbeats 2000000 in
/-- fft.RoundAll near whole numbers. -/
theorem roundAll_any (b off cap N m : Nat) (Z : Nat → Cw) (cv : Nat → Nat) (w : World) (hrow : Row w b off N (cvals Z)) (hm : 1 ≤ m) (hmN : m ≤ N) (hN : N ≤ 1048576)
    (hf : ∀ q, q < N → (Z q).Fin ∧ Bd (sc (Z q).re - (cv q : Int) * SS) NB ∧ Bd (sc (Z q).im) NB ∧ cv q ≤ 68719476736) (hz : ∀ q, m ≤ q → q < N → cv q = 0) :
    Calls Taig.prog 108 #[.slice (some ⟨b, off, none⟩) N cap, .int .i64 m] w fun e w' => e = .returned (.tuple #[.slice (some ⟨w.heap.size, 0, none⟩) m m, .bool true]) ∧ Row w' w.heap.size 0 m (lng cv) ∧ Below w.heap.size w w' := by
  have hmk := make96 m (by omega)
  have hm0 : decide ((m : Int) < 0) = false := by simp
  have hm1 : decide (N < m) = false := by simp; omega
  have hm2 : decide (0 < m) = true := by simp; omega
  have hm3 : decide ((N : Int) < (m : Int)) = false := by simp; omega
  have hm4 : decide ((0 : Int) < (m : Int)) = true := by simp; omega
  have hbl : b < w.heap.size := hrow.block_lt (by omega)
  have HF := hide hf
  have HZ := hide hz
  clear hf hz
  have nbq : NB ≤ 2251799813685247 * VV := by rw [nb_def]; have := vv_pos; omega
  have NBQ := hide nbq
  clear nbq
  go_enter Taig.func108, Taig.ntmps108
  go_wp2
  go_loopg [5, 6] N (fun gk sv iv wr => ∃ (i : Nat) (g : Nat → Nat), gk = N - i ∧ i ≤ N ∧ iv = .int .i64 i ∧ sv = .bool true ∧ Hid (∀ q, q < i → q < m → g q = cv q) ∧ Row wr w.heap.size 0 m (lng g) ∧ Free wr w.heap.size 0 m ∧ Below w.heap.size w wr)
  case atStart => exact ⟨0, fun _ => 0, rfl, Nat.zero_le _, rfl, rfl, fun q hq => absurd hq (by omega), row_made _ _ _ _, free_made _ _ _ _, below_alloc _ _⟩
  case round =>
    obtain ⟨i, g, rfl, hi, rfl, rfl, hgq, hrow2, hfree2, hbel⟩ := hrel
    clear hmk
    by_cases hil : i < N
    · obtain ⟨⟨f1, f2⟩, b1, b2, b3⟩ := unhide HF i hil
      have c1 := (hrow.keep hbel).cell hil
      simp only [cvals_at] at c1
      have KI := hide (fun wx => quarter_true (Z i).im wx f2 (b2.mono (unhide NBQ)))
      by_cases him : i < m
      · have KN := hide (nearest_any (Z i).re (cv i) wr f1 b3 b1)
        have KQ := hide (quarter_any (Z i).re wr)
        have c2 := hrow2.cell (i := i) him
        have g2 := hfree2 i him
        simp only [Nat.zero_add, lng_at] at c2 g2
        clear f1 f2 b1 b2
        go_wp2_with fail
        refine (unhide KQ).mono ?_
        rintro e w2 ⟨⟨qb, rfl⟩, rfl⟩
        go_wp2_with fail
        refine (unhide KN).mono ?_
        rintro e w2 ⟨rfl, rfl⟩
        go_wp2_with fail
        refine (unhide KI _).mono ?_
        rintro e w2 ⟨rfl, rfl⟩
        go_wp2
        go_roundg (N - (i + 1))
        case measure => omega
        case rel => exact ⟨i + 1, upd g i (cv i), rfl, by omega, by go_num, rfl, fun q hq hqm => by
          by_cases h : q = i
          · rw [h, upd_at]
          · rw [upd_ne _ _ h]; exact unhide hgq q (by omega) hqm, hrow2.lput i _ him (by omega) rfl, hfree2.setCell _ _, hbel.setCell (Nat.le_refl _) _⟩
      · have hcz := unhide HZ i (by omega) hil
        rw [hcz, Int.natCast_zero, Int.zero_mul, Int.sub_zero] at b1
        have KQ := hide (quarter_true (Z i).re wr f1 (b1.mono (unhide NBQ)))
        clear f1 f2 b1 b2 hcz
        go_wp2_with fail
        refine (unhide KQ).mono ?_
        rintro e w2 ⟨rfl, rfl⟩
        go_wp2_with fail
        refine (unhide KI _).mono ?_
        rintro e w2 ⟨rfl, rfl⟩
        go_wp2
        go_roundg (N - (i + 1))
        case measure => omega
        case rel => exact ⟨i + 1, g, rfl, by omega, by go_num, rfl, fun q hq hqm => unhide hgq q (by omega) hqm, hrow2, hfree2, hbel⟩
    · have hiN : Hid (i = N) := by unfold Hid; omega
      go_wp2
      go_ret2
      exact ⟨rfl, hrow2.congr (fun q hq => by rw [lng_at, lng_at, unhide hgq q (by rw [unhide hiN]; omega) hq]), hbel⟩

theorem lc_le36 {f g : Nat → Nat} (hf : ∀ i, f i < 256) (hg : ∀ i, g i < 256) {m : Nat} (hm : m < 1024) : lc f g m < 36028797018963968 := by
  have h := lc_lt hf hg m
  have : (m + 1) * 65025 ≤ 1024 * 65025 := Nat.mul_le_mul_right _ (by omega)
  omega

set_option maxRecDepth 100000 in
set_option maxHeartbeats 2000000 in
/-- fft.Convolve of digits. -/
theorem fftConvolve_any (a b : Option Addr) (la ca lb cb : Nat) (f g : Nat → Nat) (w : World) (hs : Sl w a la f) (ht : Sl w b lb g) (hf : Byt f) (hg : Byt g) (hz : ∀ i, la ≤ i → f i = 0) (hz2 : ∀ i, lb ≤ i → g i = 0)
    (h1 : 1 ≤ la) (h2 : la ≤ 512) (h3 : 1 ≤ lb) (h4 : lb ≤ 512) :
    Calls Taig.prog 91 #[.slice a la ca, .slice b lb cb] w fun e w' => ∃ d c, e = .returned (.tuple #[.slice d (la + lb - 1) c, .bool true]) ∧ S64 w' d (la + lb - 1) (lc f g) ∧ Below w.heap.size w w' := by
  have e1 : ((la : Int) == 0) = false := by simp; omega
  have e2 : ((lb : Int) == 0) = false := by simp; omega
  have KR := hide (raw_any a b la ca lb cb f g w hs ht hf hg hz hz2 h1 h2 h3 h4)
  have HZ := hide hz
  have HZ2 := hide hz2
  clear hz hz2 hs ht
  go_enter Taig.func91, Taig.ntmps91
  go_wp2_with fail
  refine (unhide KR).mono ?_
  rintro e w1 ⟨k, B, hk1, hk, hL, rfl, hB, hrow, hb1⟩
  have s1 := hb1.size
  have hN0 := Nat.two_pow_pos k
  have hN10 : 2 ^ k ≤ 1024 := Nat.le_trans (Nat.pow_le_pow_right (by decide) hk) (by decide)
  have hdv : 2 ^ k ∣ 1024 := Nat.pow_dvd_pow 2 hk
  have hfin : ∀ q, q < 2 ^ k → (dvw (ofd (2 ^ k)) (bckw k f g la lb) q).Fin ∧ Bd (sc (dvw (ofd (2 ^ k)) (bckw k f g la lb) q).re - (lc f g q : Int) * SS) NB ∧ Bd (sc (dvw (ofd (2 ^ k)) (bckw k f g la lb) q).im) NB ∧ lc f g q ≤ 68719476736 := fun q hq => by
    obtain ⟨o1, o2, d1, d2, d3⟩ := fin_near hf hg (unhide HZ) (unhide HZ2) hk hk1 q hq
    rw [cvs_lc (unhide HZ) (unhide HZ2) hdv hN0 hL hq] at d1 d3
    exact ⟨⟨o1.2, o2.2⟩, d1, d2, d3⟩
  have K := roundAll_any B 0 (2 ^ k) (2 ^ k) (la + lb - 1) _ (lc f g) w1 hrow (by omega) hL (by omega) hfin (fun q hq _ => lc_zero (unhide HZ) (unhide HZ2) hq)
  rw [show ((la + lb - 1 : Nat) : Int) = (la : Int) + (lb : Int) - 1 by omega] at K
  have HK := hide K
  clear K hfin hdv hN0 hN10 hL
  generalize 2 ^ k = N at *
  go_wp2_with fail
  refine (unhide HK).mono ?_
  rintro e w2 ⟨rfl, hr2, hb2⟩
  go_wp2
  go_ret2
  exact ⟨_, _, rfl, fun _ => ⟨_, _, rfl, hr2⟩, hb1.trans (hb2.mono s1)⟩
end Go.Proofs.Ygctai
