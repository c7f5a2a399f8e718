/-
  newton.Sqrt.
-/
import Derived.Test.YgctaiSqA
namespace Go.Proofs.Ygctai
open Go.RowKit
set_option linter.unusedVariables false

theorem dlen_add_le {x y n : Nat} (h1 : dlen x ≤ n) (h2 : dlen y ≤ n) : dlen (x + y) ≤ n + 1 := by
  rw [dlen_le_iff] at h1 h2 ⊢
  rw [pow256_succ]; omega
theorem four_mul (s d : Nat) : 4 * (s * d) ≤ (s + d) * (s + d) := by
  have key : ∀ d e : Nat, 4 * ((d + e) * d) ≤ (d + e + d) * (d + e + d) := fun d e => by
    simp only [Nat.mul_add, Nat.add_mul]
    have := Nat.mul_comm d e
    omega
  rcases Nat.le_total d s with h | h
  · obtain ⟨e, rfl⟩ : ∃ e, s = d + e := ⟨s - d, by omega⟩
    exact key d e
  · obtain ⟨e, rfl⟩ : ∃ e, d = s + e := ⟨d - s, by omega⟩
    have := key s e
    rw [Nat.mul_comm s (s + e), Nat.add_comm s (s + e)]
    exact this
theorem sqrt_next {A S r : Nat} (hS : 0 < S) (hr : r * r ≤ A) : r ≤ (S + A / S) / 2 := by
  have h : 2 * r ≤ S + A / S := by
    rcases Nat.lt_or_ge S (2 * r) with h1 | h1
    · obtain ⟨d, hd⟩ : ∃ d, 2 * r = S + d := ⟨2 * r - S, by omega⟩
      have h2 := four_mul S d
      rw [← hd, Nat.mul_mul_mul_comm] at h2
      have h3 : d ≤ A / S := by rw [Nat.le_div_iff_mul_le hS, Nat.mul_comm]; omega
      omega
    · exact Nat.le_trans h1 (Nat.le_add_right _ _)
  omega
theorem sqrt_stop {A S : Nat} (hS : 0 < S) (h : S ≤ (S + A / S) / 2) : S * S ≤ A := by
  have h1 : S ≤ A / S := by omega
  have h2 := (Nat.le_div_iff_mul_le hS).1 h1
  exact h2
theorem sqrt_rest {A S : Nat} (h : ∀ r, r * r ≤ A → r ≤ S) (h1 : S * S ≤ A) : A - S * S ≤ 2 * S := by
  rcases Nat.lt_or_ge (2 * S) (A - S * S) with h2 | h2
  · have h3 : (S + 1) * (S + 1) ≤ A := by
      rw [Nat.add_mul, Nat.mul_add, Nat.mul_one, Nat.one_mul]; omega
    have := h (S + 1) h3
    omega
  · exact h2

set_option maxRecDepth 100000 in
set_option maxHeartbeats 2000000 in
/-- newton.Sqrt. -/
theorem newtonSqrt_good (a : Option Addr) (A : Nat) (w : World) (ha : Nt w 0 a A) (lA : dlen A ≤ 512) :
    Calls Taig.prog 26 #[.slice a (dlen A) (dlen A)] w fun e w' => ∃ q r S R, e = .returned (.tuple #[.slice q (dlen S) (dlen S), .slice r (dlen R) (dlen R), .bool true]) ∧
      Nt w' 0 q S ∧ Nt w' 0 r R ∧ S * S + R = A ∧ R ≤ 2 * S ∧ dlen S ≤ 512 ∧ dlen R ≤ 512 ∧ Below w.heap.size w w' := by
  have k1 := hide (newtonNormal_nt 0 a A w ha (by omega))
  rcases Nat.eq_zero_or_pos A with h0 | h0
  · subst h0
    rw [dlen_zero] at *
    go_enter Taig.func26, Taig.ntmps26
    go_wp2_with fail
    refine (unhide k1).mono ?_
    rintro e w' ⟨rfl, rfl⟩
    go_wp2
    go_ret3
    exact ⟨none, none, 0, 0, rfl, Nt.nil _ _, Nt.nil _ _, rfl, Nat.le_refl _, by rw [dlen_zero]; omega, by rw [dlen_zero]; omega, Below.refl _ _⟩
  have hd := dlen_pos h0
  have e1 : ((dlen A : Int) == 0) = false := by simp; omega
  have HA := hide h0
  clear h0
  go_enter Taig.func26, Taig.ntmps26
  go_wp2_with fail
  refine (unhide k1).mono ?_
  rintro e w' ⟨rfl, rfl⟩
  go_wp2_with fail
  refine (above_any a A w ha (unhide HA) lA).mono ?_
  rintro e w1 ⟨c0, S0, rfl, hc0, hS0, lS0, hb1⟩
  have s1 := hb1.size
  have HS0 : Hid (∀ r, r * r ≤ A → r ≤ S0) := fun r hr => Nat.le_of_lt (sq_lt_of (Nat.lt_of_le_of_lt hr hS0))
  have hS0p : 0 < S0 := by
    rcases Nat.eq_zero_or_pos S0 with h | h
    · subst h; omega
    · exact h
  clear hS0
  go_wp2
  go_loopg [2] S0 (fun gs sv wr => ∃ (S : Nat) (sa : Option Addr), S = gs ∧ sv = .slice sa (dlen S) (dlen S) ∧ Nt wr 0 sa S ∧ 0 < S ∧ dlen S ≤ 512 ∧ Hid (∀ r, r * r ≤ A → r ≤ S) ∧ Below w.heap.size w wr)
  case atStart => exact ⟨S0, c0, rfl, rfl, hc0.mono (Nat.zero_le _), hS0p, lS0, HS0, hb1⟩
  case round =>
    clear hc0 hS0p lS0 HS0 hb1
    obtain ⟨S, sa, rfl, rfl, hsa, hS, lS, HS, hbel⟩ := hrel
    have sb := hbel.size
    have hak := ha.keep hbel
    have KD := newtonDiv_good a sa A S wr hak hsa hS lA lS
    have lQ : dlen (A / S) ≤ 512 := Nat.le_trans (dlen_mono (Nat.div_le_self _ _)) lA
    have HN1 : Hid (∀ r, r * r ≤ A → r ≤ (S + A / S) / 2) := fun r hr => sqrt_next hS hr
    have HN2 : Hid (S ≤ (S + A / S) / 2 → S * S ≤ A) := fun h => sqrt_stop hS h
    have HKD := hide KD
    clear KD
    generalize A / S = Q at *
    generalize A % S = R0 at *
    go_wp2_with fail
    refine (unhide HKD).mono ?_
    rintro e w2 ⟨q, r0, rfl, hq, hr0, hb2⟩
    have s2 := hb2.size
    have KA := add_any sa q _ (dlen S) _ (dlen Q) _ _ w2 (hsa.keep hb2).sl hq.sl (byt_dig _) (byt_dig _) (Nat.le_refl _) (Nat.le_refl _) (by omega) (by omega) (by omega) (by omega)
    rw [val_dig_dlen, val_dig_dlen] at KA
    have HKA := hide KA
    have lSQ : dlen (S + Q) ≤ 512 + 1 := dlen_add_le lS lQ
    clear KA
    obtain ⟨SQ, HSQ⟩ : ∃ SQ, Hid (S + Q = SQ) := ⟨_, rfl⟩
    rw [unhide HSQ] at HKA lSQ HN1 HN2
    go_wp2_with fail
    refine (unhide HKA).mono ?_
    rintro e w3 ⟨sq, rfl, hsq, hb3⟩
    have s3 := hb3.size
    have KH := hide (halved_any w2.heap.size sq SQ w3 hsq (by omega) s3)
    have lN : dlen (SQ / 2) ≤ 513 := Nat.le_trans (dlen_mono (Nat.div_le_self _ _)) lSQ
    generalize SQ / 2 = N at *
    go_wp2_with fail
    refine (unhide KH).mono ?_
    rintro e w4 ⟨nc, rfl, hnc, hb4⟩
    have s4 := hb4.size
    have hb24 : Below w2.heap.size w2 w4 := hb3.trans hb4
    have hsa4 := (hsa.keep hb2).keep hb24
    have hbw : Below w.heap.size w w4 := (hbel.trans (hb2.mono sb)).trans (hb24.mono (by omega))
    have KC := cmp_any nc sa _ (dlen N) _ (dlen S) _ _ w4 hnc.sl hsa4.sl (byt_dig _) (byt_dig _) (Nat.le_refl _) (Nat.le_refl _) (by omega) (by omega) (by omega) (by omega)
    rw [val_dig_dlen, val_dig_dlen] at KC
    rcases Nat.lt_or_ge N S with hlt | hge
    · rw [cmpz_lt hlt] at KC
      have HKC := hide KC
      clear KC
      go_wp2_with fail
      refine (unhide HKC).mono ?_
      rintro e w5 ⟨rfl, hb5⟩
      go_wp2
      go_roundg N
      case measure => exact hlt
      case rel => exact ⟨N, nc, rfl, rfl, (hnc.keep hb5).mono (Nat.zero_le _), unhide HN1 1 (unhide HA), Nat.le_trans (dlen_mono (Nat.le_of_lt hlt)) lS, HN1, hbw.trans (hb5.mono (by omega))⟩
    · have hc0 : 0 ≤ cmpz N S ∧ cmpz N S ≤ 1 := by
        unfold cmpz; rw [if_neg (by omega)]; split <;> simp
      obtain ⟨hc1, hc2⟩ := hc0
      have hSA := unhide HN2 hge
      have HR2 := hide (sqrt_rest (unhide HS) hSA)
      have HR3 : Hid (S * S + (A - S * S) = A) := by unfold Hid; omega
      have HSA := hide hSA
      have HKC := hide KC
      clear KC hge hSA
      generalize cmpz N S = cz at *
      go_wp2_with fail
      refine (unhide HKC).mono ?_
      rintro e w5 ⟨rfl, hb5⟩
      have s5 := hb5.size
      have KM := mulFFT_any sa sa _ (dlen S) _ (dlen S) _ _ w5 (hsa4.keep hb5).sl (hsa4.keep hb5).sl (byt_dig _) (byt_dig _) lS lS
      rw [val_dig_dlen] at KM
      have lSS : dlen (S * S) ≤ 512 + 512 := dlen_mul_le lS lS
      have HKM := hide KM
      clear KM
      obtain ⟨SS, HSS⟩ : ∃ SS, Hid (S * S = SS) := ⟨_, rfl⟩
      rw [unhide HSS] at HKM lSS HSA HR2
      go_wp2_with fail
      refine (unhide HKM).mono ?_
      rintro e w6 ⟨qc, rfl, hqc, hb6⟩
      have s6 := hb6.size
      have hb56 := (hbw.trans (hb5.mono (by omega))).trans (hb6.mono (by omega))
      have KS := sub_any a qc _ (dlen A) _ (dlen SS) _ _ w6 (ha.keep hb56).sl hqc.sl (byt_dig _) (byt_dig _) (Nat.le_refl _) (Nat.le_refl _) (by omega) (by omega) (by omega) (by omega)
      rw [val_dig_dlen, val_dig_dlen] at KS
      have HKS := hide KS
      clear KS
      go_wp2_with fail
      refine (unhide HKS).mono ?_
      rintro e w7 ⟨hb7, ⟨_, rc, rfl, hrc⟩ | ⟨hlt, _⟩⟩
      case inr => have := unhide HSA; omega
      have lR : dlen (A - SS) ≤ 512 := Nat.le_trans (dlen_mono (Nat.sub_le _ _)) lA
      rw [unhide HSS] at HR3
      generalize A - SS = RR at *
      go_wp2
      go_ret3
      exact ⟨sa, rc, S, RR, rfl, ((hsa4.keep hb5).keep hb6).keep hb7, hrc.mono (Nat.zero_le _), by rw [unhide HSS]; exact HR3, HR2, lS, lR, hb56.trans (hb7.mono (by omega))⟩
end Go.Proofs.Ygctai
