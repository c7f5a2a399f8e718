/-
  law.SqrtLongRight.
-/
import Derived.Test.YgctaiLJ2
import Derived.Test.YgctaiLawH
namespace Go.Proofs.Ygctai
open Go.RowKit
set_option linter.unusedVariables false

set_option maxRecDepth 100000 in
set_option maxHeartbeats 1000000 in
/-- law.rooted. -/
theorem rooted_true (a q r : Option Addr) (A Q R : Nat) (w : World) (ha : Nt w 0 a A) (hq : Nt w 0 q Q) (hr : Nt w 0 r R) (hE : Q * Q + R = A) (hRD : R ≤ 2 * Q) (l1 : dlen A ≤ 1048576) (l3 : dlen Q ≤ 1048576) (l4 : dlen R ≤ 1048576) :
    Calls Taig.prog 42 #[.slice a (dlen A) (dlen A), .slice q (dlen Q) (dlen Q), .slice r (dlen R) (dlen R)] w fun e w' => e = .returned (.bool true) ∧ Below w.heap.size w w' := by
  have KZ := add_any q q _ (dlen Q) _ (dlen Q) _ _ w hq.sl hq.sl (byt_dig _) (byt_dig _) (Nat.le_refl _) (Nat.le_refl _) (by omega) (by omega) (by omega) (by omega)
  rw [val_dig_dlen] at KZ
  have HKZ := hide KZ
  have l5 : dlen (Q + Q) ≤ 1048577 := dlen_add_le' l3 l3
  have HE := hide hE
  have hc0 : -1 ≤ cmpz R (Q + Q) ∧ cmpz R (Q + Q) ≤ 0 := by
    unfold cmpz
    by_cases h : R < Q + Q
    · rw [if_pos h]; simp
    · rw [if_neg h, if_pos (by omega)]; simp
  obtain ⟨hc1, hc2⟩ := hc0
  have KCC : Hid (∀ w1 c, Below w.heap.size w w1 → Nt w1 0 c (Q + Q) → Calls Taig.prog 33 #[.slice r (dlen R) (dlen R), .slice c (dlen (Q + Q)) (dlen (Q + Q))] w1 fun e w' => e = .returned (.int .i8 (cmpz R (Q + Q))) ∧ Below w1.heap.size w1 w') := fun w1 c hb hc => by
    have := cmp_any r c _ (dlen R) _ (dlen (Q + Q)) _ _ w1 (hr.keep hb).sl hc.sl (byt_dig _) (byt_dig _) (Nat.le_refl _) (Nat.le_refl _) (by omega) (by omega) (by omega) (by omega)
    rwa [val_dig_dlen, val_dig_dlen] at this
  clear KZ hE hRD
  generalize cmpz R (Q + Q) = cz at *
  go_enter Taig.func42, Taig.ntmps42
  go_wp2_with fail
  refine (unhide HKZ).mono ?_
  rintro e w0 ⟨c0, rfl, n0, hb0⟩
  have s0 := hb0.size
  go_wp2_with fail
  refine (unhide KCC w0 c0 hb0 (n0.mono (Nat.zero_le _))).mono ?_
  rintro e w1 ⟨rfl, hb1'⟩
  have hb1 := hb0.trans (hb1'.mono s0)
  have s1 := hb1.size
  have KM := mul_any q q _ (dlen Q) _ (dlen Q) _ _ w1 (hq.keep hb1).sl (hq.keep hb1).sl (byt_dig _) (byt_dig _) (Nat.le_refl _) (Nat.le_refl _) (by omega) (by omega) (by omega) (by omega)
  rw [val_dig_dlen] at KM
  have HKM := hide KM
  clear KM
  have lm : dlen (Q * Q) ≤ 1048576 + 1048576 := dlen_mul_le l3 l3
  go_wp2_with fail
  refine (unhide HKM).mono ?_
  rintro e w2 ⟨c2, rfl, n2, hb2⟩
  have b2 := hb1.trans (hb2.mono s1)
  have s2 := b2.size
  have KA := add_any c2 r _ (dlen (Q * Q)) _ (dlen R) _ _ w2 n2.sl (hr.keep b2).sl (byt_dig _) (byt_dig _) (Nat.le_refl _) (Nat.le_refl _) (by omega) (by omega) (by omega) (by omega)
  rw [val_dig_dlen, val_dig_dlen, unhide HE] at KA
  have HKA := hide KA
  clear KA
  go_wp2_with fail
  refine (unhide HKA).mono ?_
  rintro e w3 ⟨c3, rfl, n3, hb3⟩
  have b3 := b2.trans (hb3.mono s2)
  have s3 := b3.size
  have KS := hide (sameNat_true c3 a (dlen A) (dlen A) (dlen A) (dig A) w3 n3.sl (ha.keep b3).sl (by rw [n3.isNone, ha.isNone]) (by omega))
  go_wp2_with fail
  refine (unhide KS).mono ?_
  rintro e w4 ⟨rfl, hb4⟩
  have b4 := b3.trans (hb4.mono s3)
  have s4 := b4.size
  have KQ := add_any q none _ (dlen Q) 0 0 _ (fun _ => 0) w4 (hq.keep b4).sl (fun h => absurd h (by decide)) (byt_dig _) byt_zero (Nat.le_refl _) (Nat.le_refl _) (by omega) (by omega) (by omega) (by omega)
  rw [val_dig_dlen, val, Nat.add_zero] at KQ
  have HKQ := hide KQ
  clear KQ
  go_wp2_with fail
  refine (unhide HKQ).mono ?_
  rintro e w5 ⟨c5, rfl, n5, hb5⟩
  have b5 := b4.trans (hb5.mono s4)
  have s5 := b5.size
  have KS2 := hide (sameNat_true q c5 (dlen Q) (dlen Q) (dlen Q) (dig Q) w5 (hq.keep b5).sl n5.sl (by rw [n5.isNone, hq.isNone]) (by omega))
  go_wp2_with fail
  refine (unhide KS2).mono ?_
  rintro e w6 ⟨rfl, hb6⟩
  have b6 := b5.trans (hb6.mono s5)
  have s6 := b6.size
  have KR := add_any r none _ (dlen R) 0 0 _ (fun _ => 0) w6 (hr.keep b6).sl (fun h => absurd h (by decide)) (byt_dig _) byt_zero (Nat.le_refl _) (Nat.le_refl _) (by omega) (by omega) (by omega) (by omega)
  rw [val_dig_dlen, val, Nat.add_zero] at KR
  have HKR := hide KR
  clear KR
  go_wp2_with fail
  refine (unhide HKR).mono ?_
  rintro e w7 ⟨c7, rfl, n7, hb7⟩
  have b7 := b6.trans (hb7.mono s6)
  have s7 := b7.size
  have KS3 := hide (sameNat_true r c7 (dlen R) (dlen R) (dlen R) (dig R) w7 (hr.keep b7).sl n7.sl (by rw [n7.isNone, hr.isNone]) (by omega))
  go_wp2_with fail
  refine (unhide KS3).mono ?_
  rintro e w8 ⟨rfl, hb8⟩
  go_wp2
  go_ret
  exact ⟨rfl, b7.trans (hb8.mono s7)⟩


set_option maxRecDepth 100000 in
set_option maxHeartbeats 1000000 in
theorem slr_any (a : Option Addr) (la ca : Nat) (f : Nat → Nat) (w : World) (hs : Sl w a la f) (hf : Byt f) (hla : la ≤ ca) (hca : ca ≤ 9223372036854775807) :
    Calls Taig.prog 12 #[.slice a la ca] w fun e w' => e = .returned (.bool true) ∧ Below w.heap.size w w' := by
  have K1 := hide (digits_any a la ca 4096 w hla hca (by decide))
  have m1 := Nat.min_le_left la 4096
  have m2 := Nat.min_le_right la 4096
  have hs2 := hs.sub m1
  generalize min la 4096 = n at *
  generalize dcap la ca 4096 = c1 at *
  clear hs
  obtain ⟨A, hA⟩ : ∃ A, Hid (val f n = A) := ⟨_, rfl⟩
  have lA : dlen A ≤ 4096 := by rw [← unhide hA]; exact Nat.le_trans (dlen_val_le hf n) m2
  have K2 := hide (ownNat_any a n c1 f w hs2 (by omega))
  have HF := hide hf
  clear hf
  go_enter Taig.func12, Taig.ntmps12
  go_wp2_with fail
  refine (unhide K1).mono ?_
  rintro e w' ⟨rfl, rfl⟩
  go_wp2_with fail
  refine (unhide K2).mono ?_
  rintro e w2 ⟨x, rfl, ox2, _, b2⟩
  have s2 := b2.size
  have K5 := hide (ownNat_any x n n f w2 ox2.sl (by omega))
  go_wp2_with fail
  refine (unhide K5).mono ?_
  rintro e w4 ⟨kx, rfl, okx4, ikx, b4'⟩
  have b4 := b2.trans (b4'.mono s2)
  have s4 := b4.size
  have ox4 := ox2.keep b4'
  clear K1 K2 K5 ox2 b2 b4' hs2
  have ntx := ox4.nt (unhide HF)
  rw [unhide hA] at ntx
  have KD := hide (nlSqrt_any x n n f A w4 ox4.sl (unhide HF) (Nat.le_refl _) (by omega) (unhide hA) ntx lA)
  go_wp2_with fail
  refine (unhide KD).mono ?_
  rintro e w5 ⟨q, r, Q, R, rfl, hE0, hR0, nq, nr, b5'⟩
  have hE := hide hE0
  have hR := hide hR0
  have lQ : dlen Q ≤ 4096 := by
    refine Nat.le_trans (dlen_mono ?_) lA
    rcases Nat.eq_zero_or_pos Q with e | e
    · rw [e]; exact Nat.zero_le _
    · have : Q ≤ Q * Q := Nat.le_mul_of_pos_left _ e
      omega
  have lR : dlen R ≤ 4096 := Nat.le_trans (dlen_mono (by omega)) lA
  clear hE0 hR0
  have b5 := b4.trans (b5'.mono s4)
  have s5 := b5.size
  have s45 := b5'.size
  have ox5 := ox4.keep b5'
  clear KD ntx
  have KX := hide (sound_any x n n f A w5 ox5.sl (unhide HF) (Nat.le_refl _) (by omega) (unhide hA))
  go_wp2_with fail
  refine (unhide KX).mono ?_
  rintro e w8 ⟨sx, rfl, nsx, b8'⟩
  have b8 := b5.trans (b8'.mono s5)
  have s8 := b8.size
  have s48 := b8'.size
  have nq8 := nq.keep b8'
  have nr8 := nr.keep b8'
  have KV := hide (rooted_true sx q r A Q R w8 (nsx.mono (Nat.zero_le _)) (nq8.mono (Nat.zero_le _)) (nr8.mono (Nat.zero_le _)) (unhide hE) (unhide hR) (by omega) (by omega) (by omega))
  go_wp2_with fail
  refine (unhide KV).mono ?_
  rintro e w9 ⟨rfl, b9'⟩
  have b9 := b8.trans (b9'.mono s8)
  have s49 := b9'.size
  have b49 : Below w4.heap.size w4 w9 := (b5'.trans (b8'.mono s45)).trans (b9'.mono (by omega))
  have oq9 := (nq8.keep b9').own
  have or9 := (nr8.keep b9').own
  clear KX KV nsx
  have KF := hide (flip_any w4.heap.size q (dlen Q) (dlen Q) (dig Q) w9 oq9 (byt_dig _) (by omega))
  go_wp2_with fail
  refine (unhide KF).mono ?_
  rintro e w10 ⟨rfl, k10, b10'⟩
  have b410 := b49.trans b10'
  obtain ⟨g10, hg10, or10⟩ := or9.byt (byt_dig _) k10
  have KF2 := hide (flip_any w4.heap.size r (dlen R) (dlen R) g10 w10 or10 hg10 (by omega))
  go_wp2_with fail
  refine (unhide KF2).mono ?_
  rintro e w11 ⟨rfl, k11, b11'⟩
  have b411 := b410.trans b11'
  have b11 : Below w.heap.size w w11 := b4.trans (b411.mono s4)
  have KE := hide (sameNat_true x kx n n n f w11 (ox4.keep b411).sl (okx4.keep b411).sl ikx.symm (by omega))
  go_wp2_with fail
  refine (unhide KE).mono ?_
  rintro e w12 ⟨rfl, b12'⟩
  go_wp2
  go_ret
  exact ⟨rfl, b11.trans (b12'.mono b11.size)⟩
end Go.Proofs.Ygctai
