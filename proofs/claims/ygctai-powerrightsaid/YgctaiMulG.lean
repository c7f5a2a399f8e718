/-
  mfft.MulFFT.
-/
import Derived.Test.YgctaiMulFFT
namespace Go.Proofs.Ygctai
open Go.RowKit
set_option linter.unusedVariables false

/-- f up to n, 0 beyond. -/
def cutf (f : Nat → Nat) (n : Nat) : Nat → Nat := fun i => if i < n then f i else 0
theorem cutf_lt (f : Nat → Nat) {n i : Nat} (h : i < n) : cutf f n i = f i := if_pos h
theorem cutf_ge (f : Nat → Nat) {n i : Nat} (h : n ≤ i) : cutf f n i = 0 := if_neg (by omega)
theorem byt_cutf {f : Nat → Nat} (h : Byt f) (n : Nat) : Byt (cutf f n) := fun i => by
  unfold cutf; split
  · exact h i
  · omega

theorem csv_lc (f g : Nat → Nat) {la lb : Nat} (hz : ∀ i, la ≤ i → f i = 0) (hz2 : ∀ i, lb ≤ i → g i = 0) : csv (lc f g) (la + lb - 1) = val f la * val g lb := by
  obtain ⟨n, hn⟩ : ∃ n, n = la + lb := ⟨_, rfl⟩
  have h1 := lc_prod f g n (fun i hi => hz i (by omega)) (fun i hi => hz2 i (by omega))
  rw [← val_csv f, ← val_csv g, val_high (m := la) (by omega) (fun i a _ => hz i a), val_high (f := g) (m := lb) (by omega) (fun i a _ => hz2 i a)] at h1
  rw [← h1]
  exact (nsum_ext (by omega) fun i h2 h3 => by rw [lc_zero hz hz2 h2, Nat.zero_mul]).symm

set_option maxRecDepth 100000 in
set_option maxHeartbeats 2000000 in
/-- fft.Convolve with an empty side. -/
theorem fftConvolve_zero (a b : Option Addr) (la ca lb cb : Nat) (w : World) (h2 : la ≤ 512) (h4 : lb ≤ 512) (h0 : la = 0 ∨ lb = 0) :
    Calls Taig.prog 91 #[.slice a la ca, .slice b lb cb] w fun e w' => e = .returned (.tuple #[.slice none 0 0, .bool true]) ∧ w = w' := by
  by_cases e1 : la = 0
  · subst e1
    go_enter Taig.func91, Taig.ntmps91
    go_wp2
    go_ret2
    exact ⟨rfl, rfl⟩
  · obtain rfl : lb = 0 := by omega
    have e2 : ((la : Int) == 0) = false := by simp; omega
    go_enter Taig.func91, Taig.ntmps91
    go_wp2
    go_ret2
    exact ⟨rfl, rfl⟩

set_option maxRecDepth 100000 in
set_option maxHeartbeats 2000000 in
/-- mfft.MulFFT up to 512 digits a side. -/
theorem mulFFT_any (a b : Option Addr) (la ca lb cb : Nat) (f g : Nat → Nat) (w : World) (hs : Sl w a la f) (ht : Sl w b lb g) (hf : Byt f) (hg : Byt g) (h2 : la ≤ 512) (h4 : lb ≤ 512) :
    Calls Taig.prog 58 #[.slice a la ca, .slice b lb cb] w fun e w' => ∃ d, e = .returned (.tuple #[.slice d (dlen (val f la * val g lb)) (dlen (val f la * val g lb)), .bool true]) ∧ Nt w' w.heap.size d (val f la * val g lb) ∧ Below w.heap.size w w' := by
  have hC : Calls Taig.prog 91 #[.slice a la ca, .slice b lb cb] w fun e w' => ∃ d n c cc, e = .returned (.tuple #[.slice d n cc, .bool true]) ∧ S64 w' d n c ∧ (∀ i, i < n → c i < 36028797018963968) ∧ n ≤ 1024 ∧ csv c n = val f la * val g lb ∧ Below w.heap.size w w' := by
    by_cases h0 : la = 0 ∨ lb = 0
    · refine (fftConvolve_zero a b la ca lb cb w h2 h4 h0).mono ?_
      rintro e w1 ⟨rfl, rfl⟩
      refine ⟨none, 0, fun _ => 0, 0, rfl, fun h => absurd h (by omega), fun i hi => absurd hi (by omega), by omega, ?_, Below.refl _ _⟩
      rcases h0 with rfl | rfl <;> simp [csv, nsum, val]
    · have hz : ∀ i, la ≤ i → cutf f la i = 0 := fun i hi => cutf_ge f hi
      have hz2 : ∀ i, lb ≤ i → cutf g lb i = 0 := fun i hi => cutf_ge g hi
      refine (fftConvolve_any a b la ca lb cb (cutf f la) (cutf g lb) w (hs.congr fun i hi => (cutf_lt f hi).symm) (ht.congr fun i hi => (cutf_lt g hi).symm) (byt_cutf hf _) (byt_cutf hg _) hz hz2 (by omega) h2 (by omega) h4).mono ?_
      rintro e w1 ⟨d, c, rfl, s, hb⟩
      refine ⟨d, la + lb - 1, _, c, rfl, s, fun i hi => lc_le36 (byt_cutf hf _) (byt_cutf hg _) (by omega), by omega, ?_, hb⟩
      rw [csv_lc _ _ hz hz2, val_congr la (fun i hi => cutf_lt f hi), val_congr lb (fun i hi => cutf_lt g hi)]
  have KC := hide hC
  clear hC hs ht hf hg
  generalize val f la * val g lb = V at *
  go_enter Taig.func58, Taig.ntmps58
  go_wp2_with fail
  refine (unhide KC).mono ?_
  rintro e w1 ⟨d, n, c, cc, rfl, s, hc, hn, hv, hb1⟩
  have s1 := hb1.size
  have K := carry_any d n cc c w1 s hc (by omega)
  rw [hv] at K
  have HK := hide K
  clear K hc hv
  go_wp2_with fail
  refine (unhide HK).mono ?_
  rintro e w2 ⟨d2, rfl, hnt, hb2⟩
  go_wp2
  go_ret2
  exact ⟨_, rfl, hnt.mono s1, hb1.trans (hb2.mono s1)⟩
end Go.Proofs.Ygctai
