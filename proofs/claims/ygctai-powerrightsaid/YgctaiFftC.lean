/-
  Package fft: Forward, Inverse.
-/
import Derived.Test.YgctaiFftB
namespace Go.Proofs.Ygctai
open Go.RowKit
set_option linter.unusedVariables false
attribute [local go_sem] run_store_complex

theorem wr_alloc {b lo hi : Nat} {w w' : World} (h : Wr b lo hi w w') (hb : b < w'.heap.size) (o : Obj) : Wr b lo hi w (w'.alloc o) :=
  h.trans (Wr.of_below (below_alloc w' o) hb)

set_option maxRecDepth 100000 in
set_option maxHeartbeats 1000000 in
/-- fft.Forward. -/
theorem forward_core (k N H b off cap b2 o2 cap2 : Nat) (X T : Nat → Cw) (w : World) (hk : k ≤ 10) (h1 : 1 ≤ k) (hN : Hid (N = 2 ^ k)) (hH : 2 * H = N) (hN2 : N ≤ 1024)
    (hrow : Row w b off N (cvals X)) (hfree : Free w b off N) (htab : Row w b2 o2 H (cvals T)) (hbb : b2 ≠ b) (hok : Hid (FwOk k T X)) :
    Calls Taig.prog 134 #[.slice (some ⟨b, off, none⟩) N cap, .slice (some ⟨b2, o2, none⟩) H cap2] w fun e w' => e = .returned (.bool true) ∧ Row w' b off N (cvals (fww k T X)) ∧ Wr b off (off + N) w w' := by
  have hbl : b < w.heap.size := hrow.block_lt (by rw [unhide hN]; exact Nat.two_pow_pos k)
  have hH2 := hide hH
  go_enter Taig.func134, Taig.ntmps134
  go_wp2_with fail
  refine (fits_any k N H (by omega) h1 hN hH w).mono ?_
  rintro e w' ⟨rfl, rfl⟩
  clear hH
  go_wp2_with fail
  refine (reverse_core k N b off cap X w hk h1 hN hN2 hrow hfree).mono ?_
  rintro e w1 ⟨rfl, hrow1, hwr1⟩
  have hfree1 := hfree.wr hwr1 hbl
  have htab1 := htab.wr hwr1 (.inl hbb)
  go_wp2_with fail
  refine (fftLevel_any k N (by omega) hN w1).mono ?_
  rintro e w' ⟨rfl, rfl⟩
  go_wp2
  go_loopg [6] k (fun gk tv wr => ∃ t : Nat, gk = k - t ∧ t ≤ k ∧ tv = .int .u8 ((t : Int) + 1) ∧ Row wr b off N (cvals (pss k T (fun q => X (br k q)) t)) ∧ Free wr b off N ∧ Row wr b2 o2 H (cvals T) ∧ Wr b off (off + N) w wr)
  case atStart => exact ⟨0, rfl, Nat.zero_le _, rfl, hrow1, hfree1, htab1, hwr1⟩
  case round =>
    obtain ⟨t, rfl, ht, rfl, hrow2, hfree2, htab2, hwr2⟩ := hrel
    clear hrow1 hfree1 htab1
    by_cases hlt : t < k
    · have hst := unhide hok t hlt
      rw [← unhide hN] at hst
      have hcp : 2 ^ t * 2 ^ (k - t - 1) = H := by
        have e1 := unhide hH2
        rw [unhide hN] at e1
        rw [← Nat.pow_add, show t + (k - t - 1) = k - 1 by omega]
        have : 2 ^ k = 2 * 2 ^ (k - 1) := by rw [← Nat.pow_succ']; congr 1; omega
        omega
      have K := stage_core k t (k - t - 1) N H (2 ^ t) (2 ^ (k - t - 1)) b off cap b2 o2 cap2 _ T wr hk (by omega) hN (unhide hH2) rfl rfl hcp hN2 (Nat.two_pow_pos _) (Nat.two_pow_pos _) hrow2 hfree2 htab2 hbb hst
      have HK := hide K
      have hb2 : b < wr.heap.size := by have := hwr2.size; omega
      clear K hst hcp
      go_wp2_with fail
      refine (unhide HK).mono ?_
      rintro e w3 ⟨rfl, hrow3, hwr3⟩
      go_wp2
      go_roundg (k - (t + 1))
      case measure => omega
      case rel => exact ⟨t + 1, rfl, by omega, by go_num, hrow3, hfree2.wr hwr3 hb2, htab2.wr hwr3 (.inl hbb), hwr2.trans hwr3⟩
    · have htk : Hid (t = k) := by unfold Hid; omega
      go_wp2
      go_ret
      exact ⟨rfl, by unfold fww; rw [← unhide htk]; rw [← unhide htk] at hrow2; exact hrow2, hwr2⟩

/-- Each part divided. -/
def dvw (nw : Nat) (Z : Nat → Cw) : Nat → Cw := fun q => ⟨fdiv (Z q).re nw, fdiv (Z q).im nw⟩
def dvTo (nw : Nat) (Z : Nat → Cw) (i : Nat) : Nat → Cw := fun q => if q < i then dvw nw Z q else Z q
theorem dvTo_put (nw : Nat) (Z : Nat → Cw) (i : Nat) : upd (dvTo nw Z i) i (dvw nw Z i) = dvTo nw Z (i + 1) := by
  funext q; unfold upd dvTo
  by_cases h : q = i
  · subst h; rw [if_pos rfl, if_pos (by omega)]
  · rw [if_neg h]
    by_cases h2 : q < i
    · rw [if_pos h2, if_pos (by omega)]
    · rw [if_neg h2, if_neg (by omega)]
/-- The conjugates, some of them. -/
def cjTo (T : Nat → Cw) (i : Nat) : Nat → Cw := fun q => if q < i then wconj (T q) else ⟨0, 0⟩
theorem cjTo_put (T : Nat → Cw) (i : Nat) : upd (cjTo T i) i (wconj (T i)) = cjTo T (i + 1) := by
  funext q; unfold upd cjTo
  by_cases h : q = i
  · subst h; rw [if_pos rfl, if_pos (by omega)]
  · rw [if_neg h]
    by_cases h2 : q < i
    · rw [if_pos h2, if_pos (by omega)]
    · rw [if_neg h2, if_neg (by omega)]

set_option maxRecDepth 100000 in
set_option maxHeartbeats 2000000 in
/-- fft.Inverse. -/
theorem inverse_core (k N H b off cap b2 o2 cap2 : Nat) (X T Z : Nat → Cw) (w : World) (hk : k ≤ 10) (h1 : 1 ≤ k) (hN : Hid (N = 2 ^ k)) (hH : 2 * H = N) (hN2 : N ≤ 1024)
    (hrow : Row w b off N (cvals X)) (hfree : Free w b off N) (htab : Row w b2 o2 H (cvals T)) (hbb : b2 ≠ b) (hok : Hid (FwOk k (fun j => wconj (T j)) X)) (hZ : Hid (Z = fww k (fun j => wconj (T j)) X))
    (hdv : ∀ q, q < N → DivOk (Z q).re (ofd N) ∧ DivOk (Z q).im (ofd N)) :
    Calls Taig.prog 136 #[.slice (some ⟨b, off, none⟩) N cap, .slice (some ⟨b2, o2, none⟩) H cap2] w fun e w' => e = .returned (.bool true) ∧ Row w' b off N (cvals (dvw (ofd N) Z)) ∧ Wr b off (off + N) w w' := by
  have hN0 : 0 < N := by rw [unhide hN]; exact Nat.two_pow_pos k
  have hbl : b < w.heap.size := hrow.block_lt hN0
  have hbl2 : b2 < w.heap.size := htab.block_lt (by omega)
  have hH2 := hide hH
  have hHb : H ≤ 512 := by omega
  have hmk := make119 H (by omega)
  have HDV := hide hdv
  clear hdv
  go_enter Taig.func136, Taig.ntmps136
  go_wp2_with fail
  refine (fits_any k N H (by omega) h1 hN hH w).mono ?_
  rintro e w' ⟨rfl, rfl⟩
  clear hH
  go_wp2
  go_loopg [6] H (fun gk iv wr => ∃ i : Nat, gk = H - i ∧ i ≤ H ∧ iv = .int .i64 i ∧ Row wr w.heap.size 0 H (cvals (cjTo T i)) ∧ Free wr w.heap.size 0 H ∧ Below w.heap.size w wr)
  case atStart => exact ⟨0, rfl, Nat.zero_le _, rfl, (row_cmade w H).congr (fun q _ => by unfold cvals cjTo; rw [if_neg (by omega)]), free_made _ _ _ _, below_alloc _ _⟩
  case round =>
    obtain ⟨i, rfl, hi, rfl, hrow1, hfree1, hbel⟩ := hrel
    clear hmk
    by_cases hlt : i < H
    · have c1 := (htab.keep hbel).cell hlt
      have c2 := hrow1.cell (i := i) hlt
      have f2 := hfree1 i hlt
      simp only [Nat.zero_add, cvals_at] at c1 c2 f2
      go_wp2_with fail
      refine (twConj_any (T i) wr).mono ?_
      rintro e w2 ⟨rfl, rfl⟩
      go_wp2
      go_roundg (H - (i + 1))
      case measure => omega
      case rel => exact ⟨i + 1, rfl, by omega, by go_num, by
        rw [← cjTo_put]; exact hrow1.cput i _ hlt (by omega) rfl rfl, hfree1.setCell _ _, hbel.setCell (Nat.le_refl _) _⟩
    · have hiH : i = H := by omega
      subst hiH
      have ht2 : Row wr w.heap.size 0 i (cvals fun j => wconj (T j)) := hrow1.congr fun q hq => by unfold cvals cjTo; rw [if_pos hq]
      have K := forward_core k N i b off cap w.heap.size 0 i X (fun j => wconj (T j)) wr hk h1 hN (unhide hH2) hN2 (hrow.keep hbel) (hfree.below hbel hbl) ht2 (by omega) hok
      rw [← unhide hZ] at K
      have HK := hide K
      have hsz := hbel.size
      clear K hrow1 ht2
      go_wp2_with fail
      refine (unhide HK).mono ?_
      rintro e w3 ⟨rfl, hrow3, hwr3⟩
      have hfree3 := (hfree.below hbel hbl).wr hwr3 (by omega)
      have hw3 : Wr b off (off + N) w w3 := (Wr.of_below hbel hbl).trans hwr3
      go_wp2
      go_loopg [8] N (fun gk iv wr => ∃ q : Nat, gk = N - q ∧ q ≤ N ∧ iv = .int .i64 q ∧ Row wr b off N (cvals (dvTo (ofd N) Z q)) ∧ Free wr b off N ∧ Wr b off (off + N) w wr)
      case atStart => exact ⟨0, rfl, Nat.zero_le _, rfl, hrow3.congr (fun q _ => by unfold cvals dvTo; rw [if_neg (by omega)]), hfree3, hw3⟩
      case round =>
        obtain ⟨q, rfl, hq, rfl, hrow4, hfree4, hwr4⟩ := hrel
        clear hrow3 hfree3 hwr3 hw3
        by_cases hql : q < N
        · have c1 := hrow4.cell (i := q) hql
          have f1 := hfree4 q hql
          have e0 : dvTo (ofd N) Z q q = Z q := by unfold dvTo; rw [if_neg (by omega)]
          simp only [cvals_at] at c1
          rw [e0] at c1
          obtain ⟨d1, d2⟩ := unhide HDV q hql
          have r1 : ∀ w, (binOp .quo 144 (.float .f64 (Z q).re) (.float .f64 (floatOfInt .f64 (N : Int)))).run Taig.prog w = .ok (.float .f64 (fdiv (Z q).re (ofd N))) w := run_fdiv d1
          have r2 : ∀ w, (binOp .quo 144 (.float .f64 (Z q).im) (.float .f64 (floatOfInt .f64 (N : Int)))).run Taig.prog w = .ok (.float .f64 (fdiv (Z q).im (ofd N))) w := run_fdiv d2
          clear e0 d1 d2
          go_wp2
          go_region
          go_wp2
          go_roundg (N - (q + 1))
          case measure => omega
          case rel => exact ⟨q + 1, rfl, by omega, by go_num, by
            rw [← dvTo_put]; exact hrow4.cput q _ hql rfl rfl rfl, (hfree4.setCell _ _).drew, (hwr4.setCell (by omega) (by omega) _).drew⟩
        · have hqN : Hid (q = N) := by unfold Hid; omega
          go_wp2
          go_ret
          exact ⟨rfl, hrow4.congr (fun p hp => by unfold cvals dvTo; rw [unhide hqN, if_pos hp]), hwr4⟩
end Go.Proofs.Ygctai
