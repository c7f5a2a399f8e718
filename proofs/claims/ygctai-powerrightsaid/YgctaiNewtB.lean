/-
  newton.rise.
-/
import Derived.Test.YgctaiNewtA
import Derived.Test.YgctaiRead
namespace Go.Proofs.Ygctai
open Go.RowKit
set_option linter.unusedVariables false

/-- One step of Newton's stays below. -/
theorem rise_step {M b x E S : Nat} (hE : E = M - 1 - b * x) (hx : b * x < M) (hS : S = x * E / M) : b * (x + S) < M := by
  have hM : 0 < M := by omega
  have h1 : S * M ≤ x * E := by rw [hS]; exact Nat.div_mul_le_self _ _
  have h2 : b * (S * M) ≤ b * (x * E) := Nat.mul_le_mul_left b h1
  rw [← Nat.mul_assoc, ← Nat.mul_assoc] at h2
  have h3 : b * x * E ≤ (M - 1) * E := Nat.mul_le_mul_right _ (by omega)
  have h4 : b * S ≤ E := by
    rcases Nat.lt_or_ge E (b * S) with h | h
    · have h5 : (E + 1) * M ≤ b * S * M := Nat.mul_le_mul_right _ h
      have h6 : (M - 1) * E ≤ M * E := Nat.mul_le_mul_right _ (by omega)
      rw [Nat.add_mul, Nat.one_mul, Nat.mul_comm E M] at h5
      omega
    · exact h
  rw [Nat.mul_add]; omega

theorem val_255 (n : Nat) : val (fun _ => 255) n = 256 ^ n - 1 := by
  induction n with
  | zero => rfl
  | succ n ih => rw [val, ih, pow256_succ]; have := pow256_pos n; omega

set_option maxRecDepth 100000 in
set_option maxHeartbeats 4000000 in
/-- newton.rise: what it gives is x, or below 256^n over b. -/
theorem rise_any (b xa : Option Addr) (D X n : Nat) (w : World) (hb : Nt w 0 b D) (hx : Nt w 0 xa X) (hD : 0 < D) (b1 : dlen D ≤ 512) (b2 : dlen X ≤ 512) (b3 : n ≤ 512) :
    Calls Taig.prog 89 #[.slice b (dlen D) (dlen D), .slice xa (dlen X) (dlen X), .int .i64 n] w fun e w' => ∃ c Z, e = .returned (.slice c (dlen Z) (dlen Z)) ∧ Nt w' 0 c Z ∧ (Z = X ∨ D * Z < 256 ^ n) ∧ dlen Z ≤ 512 ∧ Below w.heap.size w w' := by
  have hmk := make23 n (by omega)
  obtain ⟨M, HM⟩ : ∃ M, Hid (256 ^ n = M) := ⟨256 ^ n, hide rfl⟩
  have hM0 : 0 < M := by rw [← unhide HM]; exact pow256_pos n
  rw [unhide HM]
  have HD := hide hD
  go_enter Taig.func89, Taig.ntmps89
  go_wp2
  go_loopg [8] n (fun gk iv wr => ∃ (i : Nat) (g : Nat → Nat), gk = n - i ∧ i ≤ n ∧ iv = .int .i64 i ∧ Byt g ∧ Hid (∀ q, q < i → g q = 255) ∧ Row wr w.heap.size 0 n (oct g) ∧ Free wr w.heap.size 0 n ∧ Below w.heap.size w wr)
  case atStart => exact ⟨0, fun _ => 0, rfl, Nat.zero_le _, rfl, byt_zero, fun q hq => absurd hq (by omega), row_made _ _ _ _, free_made _ _ _ _, below_alloc _ _⟩
  case round =>
    obtain ⟨i, g, rfl, hi, rfl, hg, hgq, hrow, hfree, hbel⟩ := hrel
    clear hmk
    by_cases hlt : i < n
    · have c1 := hrow.cell (i := i) hlt
      have f1 := hfree i hlt
      simp only [Nat.zero_add, oct_at] at c1 f1
      go_wp2
      go_roundg (n - (i + 1))
      case measure => omega
      case rel => exact ⟨i + 1, upd g i 255, rfl, by omega, by go_num, hg.upd _ _ (by omega), fun q hq => by
        by_cases h : q = i
        · rw [h, upd_at]
        · rw [upd_ne _ _ h]; exact unhide hgq q (by omega), hrow.put i 255 (by omega) (by omega) rfl, hfree.setCell _ _, hbel.setCell (Nat.le_refl _) _⟩
    · have hones : Sl wr (some ⟨w.heap.size, 0, none⟩) n (fun _ => 255) := fun _ => ⟨_, _, rfl, hrow.congr fun q hq => by rw [oct_at, oct_at, unhide hgq q (by omega)]⟩
      have sb := hbel.size
      have hbk := hb.keep hbel
      have hxk := hx.keep hbel
      clear hb hx hrow hfree hgq hg
      obtain ⟨w1, rfl⟩ : ∃ x, x = wr := ⟨wr, rfl⟩
      go_wp2
      go_loopg [1] (M - X) (fun gm xv wr => ∃ (Z : Nat) (xa : Option Addr), gm = M - Z ∧ xv = .slice xa (dlen Z) (dlen Z) ∧ Nt wr 0 xa Z ∧ Hid (Z = X ∨ D * Z < M) ∧ dlen Z ≤ 512 ∧ Below w1.heap.size w1 wr)
      case atStart => exact ⟨X, xa, rfl, rfl, hxk, .inl rfl, b2, Below.refl _ _⟩
      case round =>
        obtain ⟨Z, xa, rfl, rfl, hxa, hZ, hZl, hb1⟩ := hrel
        clear hxk
        have KM := mulFFT_any b xa _ (dlen D) _ (dlen Z) _ _ wr (hbk.keep hb1).sl hxa.sl (byt_dig _) (byt_dig _) b1 hZl
        rw [val_dig_dlen, val_dig_dlen] at KM
        have HKM := hide KM
        have lDZ : dlen (D * Z) ≤ 512 + 512 := dlen_mul_le b1 hZl
        have s1 := hb1.size
        clear KM
        obtain ⟨DZ, HDZ⟩ : ∃ DZ, Hid (D * Z = DZ) := ⟨_, rfl⟩
        rw [unhide HDZ] at HKM lDZ
        go_wp2_with fail
        refine (unhide HKM).mono ?_
        rintro e w2 ⟨t, rfl, ht, hb2⟩
        have s2 := hb2.size
        have KS := sub_any (some ⟨w.heap.size, 0, none⟩) t n n _ (dlen DZ) _ _ w2 ((hones.keep hb1).keep hb2) ht.sl (fun _ => (by decide : 255 < 256)) (byt_dig _) (Nat.le_refl _) (Nat.le_refl _) (by omega) (by omega) (by omega) (by omega)
        rw [val_dig_dlen, val_255, unhide HM] at KS
        have HKS := hide KS
        clear KS
        go_wp2_with fail
        refine (unhide HKS).mono ?_
        rintro e w3 ⟨hb3, ⟨hle, ec, rfl, hE⟩ | ⟨hgt, rfl⟩⟩
        · have s3 := hb3.size
          obtain ⟨E, HE⟩ : ∃ E, Hid (M - 1 - DZ = E) := ⟨_, rfl⟩
          rw [unhide HE] at hE ⊢
          have lE : dlen E ≤ 512 := by
            have : dlen E ≤ n := by rw [dlen_le_iff, unhide HM, ← unhide HE]; omega
            omega
          have KM := mulFFT_any xa ec _ (dlen Z) _ (dlen E) _ _ w3 ((hxa.keep hb2).keep hb3).sl hE.sl (byt_dig _) (byt_dig _) hZl lE
          rw [val_dig_dlen, val_dig_dlen] at KM
          have HKM2 := hide KM
          have lS : dlen (Z * E) ≤ 512 + 512 := dlen_mul_le hZl lE
          clear KM
          have hle2 := hide hle
          clear hle
          obtain ⟨ZE, HZE⟩ : ∃ ZE, Hid (Z * E = ZE) := ⟨_, rfl⟩
          rw [unhide HZE] at HKM2 lS
          go_wp2_with fail
          refine (unhide HKM2).mono ?_
          rintro e w4 ⟨sc, rfl, hS, hb4⟩
          have s4 := hb4.size
          go_wp2_with fail
          refine (down_any _ sc ZE n w4 hS (by omega) (by omega)).mono ?_
          rintro e w' ⟨dc, rfl, hdc, rfl⟩
          obtain ⟨S, HS⟩ : ∃ S, Hid (ZE / 256 ^ n = S) := ⟨_, rfl⟩
          rw [unhide HS] at hdc ⊢
          rw [unhide HM] at HS
          have lS2 : dlen S ≤ 1024 := Nat.le_trans (dlen_mono (by rw [← unhide HS]; exact Nat.div_le_self _ _)) lS
          have hxa4 := ((hxa.keep hb2).keep hb3).keep hb4
          have hbw : Below w1.heap.size w1 w4 := ((hb1.trans (hb2.mono s1)).trans (hb3.mono (by omega))).trans (hb4.mono (by omega))
          by_cases hS0 : 0 < S
          · have hdS := dlen_pos hS0
            have e0 : ((dlen S : Int) == 0) = false := by simp; omega
            have hstep : D * (Z + S) < M := rise_step (x := Z) (E := E) (by rw [← unhide HE, unhide HDZ]) (by rw [unhide HDZ]; have := unhide hle2; omega) (by rw [unhide HZE]; exact (unhide HS).symm)
            have hlZ : Z + S < M := by
              have : 1 * (Z + S) ≤ D * (Z + S) := Nat.mul_le_mul_right _ (unhide HD)
              omega
            have lZS : dlen (Z + S) ≤ n := by rw [dlen_le_iff, unhide HM]; exact hlZ
            have HST := hide hstep
            clear hstep
            have KA := add_any xa dc _ (dlen Z) _ (dlen S) _ _ w4 hxa4.sl hdc.sl (byt_dig _) (byt_dig _) (Nat.le_refl _) (Nat.le_refl _) (by omega) (by omega) (by omega) (by omega)
            rw [val_dig_dlen, val_dig_dlen] at KA
            have HKA := hide KA
            clear KA
            go_wp2_with fail
            refine (unhide HKA).mono ?_
            rintro e w5 ⟨nc, rfl, hnc, hb5⟩
            go_wp2
            go_roundg (M - (Z + S))
            case measure => omega
            case rel => exact ⟨Z + S, nc, rfl, rfl, hnc.mono (Nat.zero_le _), .inr HST, by omega, hbw.trans (hb5.mono (by omega))⟩
          · obtain rfl : S = 0 := by omega
            rw [dlen_zero]
            go_wp2
            go_ret
            exact ⟨xa, Z, rfl, hxa4, hZ, hZl, hbel.trans (hbw.mono sb)⟩
        · have HG := hide hgt
          have s3 := hb3.size
          clear hgt
          have KM := mulFFT_any xa none _ (dlen Z) 0 0 _ (fun _ => 0) w3 ((hxa.keep hb2).keep hb3).sl (fun h => absurd h (by decide)) (byt_dig _) byt_zero hZl (by decide)
          rw [val, Nat.mul_zero, dlen_zero] at KM
          have HKM2 := hide KM
          clear KM
          go_wp2_with fail
          refine (unhide HKM2).mono ?_
          rintro e w4 ⟨sc, rfl, hS, hb4⟩
          have KD := down_any _ sc 0 n w4 hS (by rw [dlen_zero]; omega) (by omega)
          rw [Nat.zero_div, dlen_zero] at KD
          have HKD := hide KD
          clear KD
          go_wp2_with fail
          refine (unhide HKD).mono ?_
          rintro e w' ⟨dc, rfl, hdc, rfl⟩
          go_wp2
          go_ret
          exact ⟨xa, Z, rfl, ((hxa.keep hb2).keep hb3).keep hb4, hZ, hZl, hbel.trans ((((hb1.trans (hb2.mono s1)).trans (hb3.mono (by omega))).trans (hb4.mono (by omega))).mono sb)⟩
end Go.Proofs.Ygctai
