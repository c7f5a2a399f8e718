/-
  newton.divide, newton.Div.
-/
import Derived.Test.YgctaiNewtC
namespace Go.Proofs.Ygctai
open Go.RowKit
set_option linter.unusedVariables false

theorem quot_low {A D X M : Nat} (h : D * X < M) : A * X / M * D ≤ A := by
  have hM : 0 < M := by omega
  have h1 : A * X / M * M ≤ A * X := Nat.div_mul_le_self _ _
  have h2 := Nat.mul_le_mul_right D h1
  have h3 : A * X * D ≤ A * M := by rw [Nat.mul_assoc, Nat.mul_comm X D]; exact Nat.mul_le_mul_left _ (Nat.le_of_lt h)
  rw [Nat.mul_right_comm] at h2
  exact Nat.le_of_mul_le_mul_right (Nat.le_trans h2 h3) hM
theorem div_done {A D Q R : Nat} (h : Q * D + R = A) (hR : R < D) : A / D = Q ∧ A % D = R := by
  have hD : 0 < D := by omega
  subst h
  refine ⟨?_, ?_⟩
  · rw [Nat.add_comm, Nat.add_mul_div_right _ _ hD, Nat.div_eq_of_lt hR, Nat.zero_add]
  · rw [Nat.add_comm, Nat.add_mul_mod_self_right, Nat.mod_eq_of_lt hR]

set_option maxRecDepth 100000 in
set_option maxHeartbeats 4000000 in
/-- newton.divide. -/
theorem divide_any (a b x : Option Addr) (A D X n : Nat) (w : World) (ha : Nt w 0 a A) (hb : Nt w 0 b D) (hx : Nt w 0 x X) (hD : 0 < D) (hX : D * X < 256 ^ n) (b1 : dlen A ≤ 512) (b2 : dlen D ≤ 512) (b3 : dlen X ≤ 512) (b4 : n ≤ 1048576) :
    Calls Taig.prog 50 #[.slice a (dlen A) (dlen A), .slice b (dlen D) (dlen D), .slice x (dlen X) (dlen X), .int .i64 n] w fun e w' => ∃ q r, e = .returned (.tuple #[.slice q (dlen (A / D)) (dlen (A / D)), .slice r (dlen (A % D)) (dlen (A % D)), .bool true]) ∧
      Nt w' w.heap.size q (A / D) ∧ Nt w' w.heap.size r (A % D) ∧ Below w.heap.size w w' := by
  have KM := mulFFT_any a x _ (dlen A) _ (dlen X) _ _ w ha.sl hx.sl (byt_dig _) (byt_dig _) b1 b3
  rw [val_dig_dlen, val_dig_dlen] at KM
  have lP : dlen (A * X) ≤ 512 + 512 := dlen_mul_le b1 b3
  have HQ := hide (quot_low (A := A) hX)
  have HKM := hide KM
  have HD := hide hD
  clear KM hX hD
  generalize A * X = P at *
  go_enter Taig.func50, Taig.ntmps50
  go_wp2_with fail
  refine (unhide HKM).mono ?_
  rintro e w1 ⟨pc, rfl, hp, hb1⟩
  have s1 := hb1.size
  have KD := down_any _ pc P n w1 hp (by omega) (by omega)
  have HKD := hide KD
  clear KD
  generalize P / 256 ^ n = Q at *
  go_wp2_with fail
  refine (unhide HKD).mono ?_
  rintro e w' ⟨dc, rfl, hdc, rfl⟩
  have hQA : Q ≤ A := by
    have : Q * 1 ≤ Q * D := Nat.mul_le_mul_left _ (unhide HD)
    have := unhide HQ
    omega
  have lQ : dlen Q ≤ 512 := Nat.le_trans (dlen_mono hQA) b1
  clear hQA
  have KA := add_any dc none _ (dlen Q) 0 0 _ (fun _ => 0) w1 hdc.sl (fun h => absurd h (by decide)) (byt_dig _) byt_zero (Nat.le_refl _) (Nat.le_refl _) (by omega) (by omega) (by omega) (by omega)
  rw [val_dig_dlen, val, Nat.add_zero] at KA
  have HKA := hide KA
  clear KA
  go_wp2_with fail
  refine (unhide HKA).mono ?_
  rintro e w2 ⟨qc, rfl, hqc, hb2⟩
  have s2 := hb2.size
  have KM := mulFFT_any qc b _ (dlen Q) _ (dlen D) _ _ w2 hqc.sl ((hb.keep hb1).keep hb2).sl (byt_dig _) (byt_dig _) lQ b2
  rw [val_dig_dlen, val_dig_dlen] at KM
  have lT : dlen (Q * D) ≤ 512 + 512 := dlen_mul_le lQ b2
  have HKM := hide KM
  clear KM
  obtain ⟨QD, HQD⟩ : ∃ QD, Hid (Q * D = QD) := ⟨_, rfl⟩
  rw [unhide HQD] at HKM lT HQ
  go_wp2_with fail
  refine (unhide HKM).mono ?_
  rintro e w3 ⟨tc, rfl, htc, hb3⟩
  have s3 := hb3.size
  have KS := sub_any a tc _ (dlen A) _ (dlen QD) _ _ w3 (((ha.keep hb1).keep hb2).keep hb3).sl htc.sl (byt_dig _) (byt_dig _) (Nat.le_refl _) (Nat.le_refl _) (by omega) (by omega) (by omega) (by omega)
  rw [val_dig_dlen, val_dig_dlen] at KS
  have HKS := hide KS
  clear KS
  go_wp2_with fail
  refine (unhide HKS).mono ?_
  rintro e w4 ⟨hb4, ⟨_, rc, rfl, hrc⟩ | ⟨hlt, _⟩⟩
  case inr => have := unhide HQ; omega
  have s4 := hb4.size
  have HR : Hid (Q * D + (A - QD) = A) := by have := unhide HQ; unfold Hid; rw [unhide HQD]; omega
  have lR : dlen (A - QD) ≤ 512 := Nat.le_trans (dlen_mono (Nat.sub_le _ _)) b1
  generalize A - QD = R at *
  have hbw : Below w.heap.size w w4 := ((hb1.trans (hb2.mono s1)).trans (hb3.mono (by omega))).trans (hb4.mono (by omega))
  have hbk := hb.keep hbw
  have hq4 : Nt w4 w.heap.size qc Q := (((hqc.keep hb3).keep hb4).mono (by omega))
  have hr4 : Nt w4 w.heap.size rc R := hrc.mono (by omega)
  clear hqc hrc hb ha hx hdc hp htc HQ HQD lT lP
  go_wp2
  go_loopg [8, 9] R (fun gm qv rv wr => ∃ (Q R : Nat) (qc rc : Option Addr), R = gm ∧ qv = .slice qc (dlen Q) (dlen Q) ∧ rv = .slice rc (dlen R) (dlen R) ∧ Nt wr w.heap.size qc Q ∧ Nt wr w.heap.size rc R ∧ dlen R ≤ 512 ∧ dlen Q ≤ 512 ∧ Hid (Q * D + R = A) ∧ Below w4.heap.size w4 wr)
  case atStart => exact ⟨Q, R, qc, rc, rfl, rfl, rfl, hq4, hr4, lR, lQ, HR, Below.refl _ _⟩
  case round =>
    clear hq4 hr4 lR lQ HR
    obtain ⟨Q, R, qc, rc, rfl, rfl, rfl, hq, hr, lR, lQ, HR, hbel⟩ := hrel
    have sb := hbel.size
    have hsw : w.heap.size ≤ wr.heap.size := by omega
    have KC := cmp_any rc b _ (dlen R) _ (dlen D) _ _ wr hr.sl (hbk.keep hbel).sl (byt_dig _) (byt_dig _) (Nat.le_refl _) (Nat.le_refl _) (by omega) (by omega) (by omega) (by omega)
    rw [val_dig_dlen, val_dig_dlen] at KC
    rcases Nat.lt_or_ge R D with hRD | hRD
    · rw [cmpz_lt hRD] at KC
      have HKC := hide KC
      obtain ⟨e1, e2⟩ := div_done (unhide HR) hRD
      have E1 := hide e1
      have E2 := hide e2
      clear KC e1 e2 hRD
      go_wp2_with fail
      refine (unhide HKC).mono ?_
      rintro e w5 ⟨rfl, hb5⟩
      go_wp2
      go_ret3
      rw [unhide E1, unhide E2]
      exact ⟨qc, rc, rfl, hq.keep hb5, hr.keep hb5, (hbw.trans (hbel.mono (by omega))).trans (hb5.mono hsw)⟩
    · have hc0 : 0 ≤ cmpz R D ∧ cmpz R D ≤ 1 := by
        unfold cmpz; rw [if_neg (by omega)]; split <;> simp
      obtain ⟨hc1, hc2⟩ := hc0
      have HKC := hide KC
      have hRD' := hide hRD
      clear KC hRD
      generalize cmpz R D = cz at *
      go_wp2_with fail
      refine (unhide HKC).mono ?_
      rintro e w5 ⟨rfl, hb5⟩
      have s5 := hb5.size
      have KS := sub_any rc b _ (dlen R) _ (dlen D) _ _ w5 (hr.keep hb5).sl ((hbk.keep hbel).keep hb5).sl (byt_dig _) (byt_dig _) (Nat.le_refl _) (Nat.le_refl _) (by omega) (by omega) (by omega) (by omega)
      rw [val_dig_dlen, val_dig_dlen] at KS
      have HKS := hide KS
      clear KS
      go_wp2_with fail
      refine (unhide HKS).mono ?_
      rintro e w6 ⟨hb6, ⟨_, rc', rfl, hrc⟩ | ⟨hlt, _⟩⟩
      case inr => have := unhide hRD'; omega
      have s6 := hb6.size
      have lR' : dlen (R - D) ≤ 512 := Nat.le_trans (dlen_mono (Nat.sub_le _ _)) lR
      have HR' : Hid ((Q + 1) * D + (R - D) = A) := by
        unfold Hid; rw [Nat.add_mul, Nat.one_mul]
        have := unhide HR; have := unhide hRD'; omega
      have hQ1 : dlen (Q + 1) ≤ 512 := by
        have h1 : (Q + 1) * 1 ≤ (Q + 1) * D := Nat.mul_le_mul_left _ (unhide HD)
        have h2 := unhide HR'
        exact Nat.le_trans (dlen_mono (by omega)) b1
      have hm : Hid (R - D < R) := by have := unhide hRD'; have := unhide HD; unfold Hid; omega
      have KQ := succ_any qc _ (dlen Q) _ w6 ((hq.keep hb5).keep hb6).sl (byt_dig _) (Nat.le_refl _) (by omega) (by omega)
      rw [val_dig_dlen] at KQ
      have HKQ := hide KQ
      clear KQ
      generalize R - D = R' at *
      go_wp2_with fail
      refine (unhide HKQ).mono ?_
      rintro e w7 ⟨qc', rfl, hqc, hb7⟩
      go_wp2
      go_roundg R'
      case measure => exact unhide hm
      case rel => exact ⟨Q + 1, R', qc', rc', rfl, rfl, rfl, hqc.mono (by omega), (hrc.keep hb7).mono (by omega), lR', hQ1, HR', ((hbel.trans (hb5.mono sb)).trans (hb6.mono (by omega))).trans (hb7.mono (by omega))⟩
end Go.Proofs.Ygctai
