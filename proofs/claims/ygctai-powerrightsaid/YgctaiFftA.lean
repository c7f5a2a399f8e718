/-
  Package fft: points, level, fits, Reverse.
-/
import Derived.Test.YgctaiTw
import Derived.Test.YgctaiBr
namespace Go.Proofs.Ygctai
open Go.RowKit
set_option linter.unusedVariables false
attribute [local go_sem] run_store_complex

set_option maxRecDepth 100000 in
set_option maxHeartbeats 1000000 in
/-- fft.points. -/
theorem points_any (a : Option Addr) (la ca n : Nat) (f : Nat → Nat) (w : World) (hs : Sl w a la f) (hf : Byt f) (hn : la ≤ n) (hn2 : n ≤ 1048576) :
    Calls Taig.prog 133 #[.slice a la ca, .int .i64 n] w fun e w' => e = .returned (.slice (some ⟨w.heap.size, 0, none⟩) n n) ∧ Row w' w.heap.size 0 n (cvals (ptsw f la)) ∧ Free w' w.heap.size 0 n ∧ Below w.heap.size w w' := by
  have hmk := make119 n (by omega)
  go_enter Taig.func133, Taig.ntmps133
  go_wp2
  go_loopg [6] la (fun gk i wr => ∃ k : Nat, gk = la - k ∧ k ≤ la ∧ i = .int .i64 k ∧ Row wr w.heap.size 0 n (cvals (ptsw f k)) ∧ Free wr w.heap.size 0 n ∧ Below w.heap.size w wr)
  case atStart => exact ⟨0, rfl, Nat.zero_le _, rfl, (row_cmade w n).congr fun i _ => by unfold cvals ptsw; rw [if_neg (by omega)], free_made _ _ _ _, below_alloc _ _⟩
  case round =>
    obtain ⟨k, rfl, hk, rfl, hrow, hfree, hbel⟩ := hrel
    by_cases hlt : k < la
    · obtain ⟨b1, o1, rfl, r1⟩ := hs (by omega)
      have c1 := (r1.keep hbel).cell hlt
      have c2 := hrow.cell (i := k) (by omega)
      have f2 := hfree k (by omega)
      simp only [Nat.zero_add, cvals_at, oct_at] at c1 c2 f2
      clear hs
      go_wp2
      go_roundg (la - (k + 1))
      case measure => omega
      case rel => exact ⟨k + 1, rfl, by omega, by go_num, (hrow.cput k ⟨ofd (f k), 0⟩ (by omega) (by omega) rfl rfl).congr (fun i hi => by
        unfold cvals; congr 1
        unfold upd ptsw
        by_cases h : i = k
        · rw [if_pos h, if_pos (by omega), h]
        · rw [if_neg h]
          by_cases h2 : i < k
          · rw [if_pos h2, if_pos (by omega)]
          · rw [if_neg h2, if_neg (by omega)]), hfree.setCell _ _, hbel.setCell (Nat.le_refl _) _⟩
    · have hk' : k = la := by omega
      subst hk'
      go_wp2
      go_ret
      exact ⟨rfl, hrow, hfree, hbel⟩

set_option maxHeartbeats 400000 in
/-- fft.level of a power of two. -/
theorem fftLevel_any (k N : Nat) (hk : k ≤ 11) (hN : Hid (N = 2 ^ k)) (w : World) :
    Calls Taig.prog 153 #[.int .i64 N] w fun e w' => e = .returned (.int .i64 k) ∧ w = w' := by
  go_enter Taig.func153, Taig.ntmps153
  go_wp2
  go_loop [3] (fun i => ∃ j : Nat, j ≤ k ∧ i = .int .i64 j) (fun i => k - (intOf i).toNat)
  case atStart => exact ⟨0, Nat.zero_le _, rfl⟩
  case round =>
    obtain ⟨j, hj, rfl⟩ := hrel
    have hw := wrap_pow j (by omega)
    by_cases hlt : j < k
    · have hne : ((N : Int) == wrap64 (2 ^ j)) = false := by
        rw [hw, beq_eq_false_iff_ne, unhide hN]
        have : 2 ^ j < 2 ^ k := Nat.pow_lt_pow_right (by decide) hlt
        omega
      clear hw
      go_wp2
      go_round
      case rel => exact ⟨j + 1, by omega, by go_num⟩
      case measure => simp [intOf]; omega
    · have hjk : j = k := by omega
      subst hjk
      have he : ((N : Int) == wrap64 (2 ^ j)) = true := by rw [hw, unhide hN]; simp
      clear hw
      go_wp2
      go_ret
      exact ⟨rfl, rfl⟩

set_option maxHeartbeats 400000 in
/-- fft.fits. -/
theorem fits_any (k N H : Nat) (hk : k ≤ 11) (h1 : 1 ≤ k) (hN : Hid (N = 2 ^ k)) (hH : 2 * H = N) (w : World) :
    Calls Taig.prog 151 #[.int .i64 N, .int .i64 H] w fun e w' => e = .returned (.bool true) ∧ w = w' := by
  have hN2 : N ≤ 2048 := by rw [unhide hN]; exact Nat.le_trans (Nat.pow_le_pow_right (by decide) hk) (by decide)
  have hb : ((N : Int) == 2 * (H : Int)) = true := by simp; omega
  have hk2 : (1 : Int) ≤ (k : Int) := by omega
  have hH2 : H ≤ 2048 := by omega
  clear hH
  go_enter Taig.func151, Taig.ntmps151
  go_wp2_with fail
  refine (fftLevel_any k N hk hN w).mono ?_
  rintro e w' ⟨rfl, rfl⟩
  go_wp2
  go_ret
  exact ⟨rfl, rfl⟩

set_option maxRecDepth 100000 in
set_option maxHeartbeats 2000000 in
/-- fft.Reverse. -/
theorem reverse_core (k N b off cap : Nat) (X : Nat → Cw) (w : World) (hk : k ≤ 10) (h1 : 1 ≤ k) (hN : Hid (N = 2 ^ k)) (hN2 : N ≤ 1024) (hrow : Row w b off N (cvals X)) (hfree : Free w b off N) :
    Calls Taig.prog 152 #[.slice (some ⟨b, off, none⟩) N cap] w fun e w' => e = .returned (.tuple #[]) ∧ Row w' b off N (cvals fun q => X (br k q)) ∧ Wr b off (off + N) w w' := by
  have hsz : 0 < N := by rw [unhide hN]; exact Nat.two_pow_pos k
  go_enter Taig.func152, Taig.ntmps152
  go_wp2_with fail
  refine (fftLevel_any k N (by omega) hN w).mono ?_
  rintro e w' ⟨rfl, rfl⟩
  go_wp2
  go_loopg [3, 4] N (fun gk jv iv wr => ∃ i j : Nat, gk = N - i ∧ i ≤ N ∧ iv = .int .i64 i ∧ jv = .int .i64 j ∧ Hid (i < N → j = br k i) ∧ j < N ∧ Row wr b off N (cvals (yr k X i)) ∧ Free wr b off N ∧ Wr b off (off + N) w wr)
  case atStart => exact ⟨0, 0, rfl, Nat.zero_le _, rfl, rfl, fun _ => by
      have : ∀ m, br m 0 = 0 := fun m => by induction m with | zero => rfl | succ m ih => rw [br, ih]; simp
      rw [this], hsz, by rw [yr_zero]; exact hrow, hfree, Wr.refl _ _ _ _⟩
  case round =>
    obtain ⟨i, j, rfl, hi, rfl, rfl, hj, hjN, hrow2, hfree2, hwr⟩ := hrel
    clear hrow hfree
    by_cases hlt : i < N
    · have hj2 := hide (unhide hj hlt)
      clear hj
      have hi2 : i < 2 ^ k := by rw [← unhide hN]; exact hlt
      have hlo : 0 < k := by omega
      go_upto_if 18 with fail
      go_cut [3] (fun jv wc => jv = .int .i64 j ∧ Row wc b off N (cvals (yr k X (i + 1))) ∧ Free wc b off N ∧ Wr b off (off + N) w wc)
      case first =>
        by_cases hij : i < j
        · have c1 := hrow2.cell (i := i) hlt
          have c2 := hrow2.cell (i := j) hjN
          have f1 := hfree2 i hlt
          have f2 := hfree2 j hjN
          simp only [cvals_at] at c1 c2
          go_wp2
          go_region
          go_wp2
          go_meet
          case rel => exact ⟨rfl, ((hrow2.cput i (yr k X i j) hlt rfl rfl rfl).cput j (yr k X i i) hjN rfl rfl rfl).congr (fun p hp => by
            unfold cvals; congr 1
            have := yr_swap k X i hi2 (by rw [← unhide hj2]; exact hij) p (by rw [← unhide hN]; exact hp)
            rw [← unhide hj2] at this
            exact this), ((hfree2.setCell _ _).setCell _ _).drew, (((hwr.setCell (by omega) (by omega) _).setCell (by omega) (by omega) _)).drew⟩
        · go_wp2
          go_meet
          case rel => exact ⟨rfl, hrow2.congr (fun p hp => by
            unfold cvals; congr 1
            exact yr_keep k X i hi2 (by rw [← unhide hj2]; omega) p (by rw [← unhide hN]; exact hp)), hfree2, hwr⟩
      case rest =>
        clear hrow2 hfree2 hwr
        obtain ⟨rfl, hrow2, hfree2, hwr⟩ := hcut
        have hNh : Hid (N / 2 = 2 ^ (k - 1)) := by
          unfold Hid; rw [unhide hN]
          obtain ⟨m, rfl⟩ : ∃ m, k = m + 1 := ⟨k - 1, by omega⟩
          rw [Nat.pow_succ, Nat.mul_div_cancel _ (by decide), Nat.add_sub_cancel]
        go_wp2
        go_loopg [3, 5] k (fun gl jv bv wi => ∃ c s jj M : Nat, c = gl ∧ c ≤ k ∧ jv = .int .i64 jj ∧ bv = .int .i64 M ∧ Hid (jj = br c s) ∧ Hid (M = if c = 0 then 0 else 2 ^ (c - 1)) ∧ Hid (br c (s + 1) = br k (i + 1)) ∧ M ≤ 1024 ∧ jj ≤ 1024 ∧ wi = wc)
        case atStart => exact ⟨k, i, j, N / 2, rfl, Nat.le_refl _, rfl, int_eq (by omega), hj2, by unfold Hid; rw [if_neg (by omega)]; exact unhide hNh, rfl, by omega, by omega, rfl⟩
        case round =>
          obtain ⟨c, s, jj, M, rfl, hc, rfl, rfl, hjj, hM, hgoal, hM1, hj1, rfl⟩ := hrel
          rcases Nat.eq_zero_or_pos c with hc0 | hc0
          · subst hc0
            have hM0 : M = 0 := by have := unhide hM; rwa [if_pos rfl] at this
            have hj0 : jj = 0 := unhide hjj
            subst hM0
            subst hj0
            have hor : bits .or .i64 0 0 = 0 := i64_or_zero 0 (by decide)
            go_wp2
            go_roundg (N - (i + 1))
            case measure => omega
            case rel => exact ⟨i + 1, 0, rfl, by omega, by go_num, rfl, fun _ => by rw [← unhide hgoal]; rfl, hsz, hrow2, hfree2, hwr⟩
          · obtain ⟨m, rfl⟩ : ∃ m, c = m + 1 := ⟨c - 1, by omega⟩
            have hMe : M = 2 ^ m := by have := unhide hM; rwa [if_neg (by omega), Nat.add_sub_cancel] at this
            have hMp : 0 < M := by rw [hMe]; exact Nat.two_pow_pos m
            have hr := br_lt' m (s / 2)
            rw [← hMe] at hr
            rcases Nat.mod_two_eq_zero_or_one s with hs | hs
            · obtain ⟨e1, e2⟩ := br_stay m s hs
              have hjr : jj = br m (s / 2) := by rw [unhide hjj, e1]
              have hand := i64_and_bit0 hMe (by omega) (r := jj) (by rw [hjr]; exact hr)
              have hor := i64_or_bit0 hMe (by omega) (r := jj) (by rw [hjr]; exact hr)
              have hres : Hid (M + jj = br k (i + 1)) := by unfold Hid; rw [← unhide hgoal, e2, hjr, hMe]
              have hlast : M + jj < N := by rw [unhide hres, unhide hN]; exact br_lt' _ _
              clear e1 e2 hjr hMe hr hs hjj hM hgoal
              go_wp2
              go_roundg (N - (i + 1))
              case measure => omega
              case rel => exact ⟨i + 1, M + jj, rfl, by omega, by go_num, int_eq (by omega), fun _ => unhide hres, hlast, hrow2, hfree2, hwr⟩
            · obtain ⟨e1, e2⟩ := br_carry m s hs
              obtain ⟨r, hrr⟩ : ∃ r, r = br m (s / 2) := ⟨_, rfl⟩
              rw [← hrr] at hr e1
              have hjr : jj = M + r := by rw [unhide hjj, e1, hMe]
              subst hjr
              have hand := i64_and_bit1 hMe (by omega) hr
              have hxor := i64_xor_bit1 hMe (by omega) hr
              rw [Int.natCast_add] at hand hxor
              have hne : ((M : Int) != 0) = true := by rw [bne_iff_ne]; omega
              have hres : Hid (br m (s / 2 + 1) = br k (i + 1)) := by unfold Hid; rw [← unhide hgoal, e2]
              have hM2 : Hid (M / 2 = if m = 0 then 0 else 2 ^ (m - 1)) := by
                unfold Hid; rw [hMe]
                rcases Nat.eq_zero_or_pos m with h | h
                · subst h; rfl
                · obtain ⟨q, rfl⟩ : ∃ q, m = q + 1 := ⟨m - 1, by omega⟩
                  rw [if_neg (by omega), Nat.pow_succ, Nat.mul_div_cancel _ (by decide), Nat.add_sub_cancel]
              have HR := hide hrr
              clear e1 e2 hMe hs hjj hM hgoal hrr
              go_wp2
              go_roundg m
              case measure => omega
              case rel => exact ⟨m, s / 2, r, M / 2, rfl, by omega, rfl, int_eq (by omega), HR, hM2, hres, by omega, by omega, rfl⟩
    · have hi' : Hid (i = N) := by unfold Hid; omega
      go_wp2
      go_end0
      exact ⟨rfl, hrow2.congr (fun p hp => by unfold cvals; congr 1; rw [unhide hi', unhide hN]; exact yr_end k X p (by rw [← unhide hN]; exact hp)), hwr⟩
end Go.Proofs.Ygctai
