/-
  law.DivLongRight.
-/
import Derived.Test.YgctaiLawH
namespace Go.Proofs.Ygctai
open Go.RowKit
set_option linter.unusedVariables false

set_option maxRecDepth 100000 in
set_option maxHeartbeats 1000000 in
theorem dlr_any (a b : Option Addr) (la ca lb cb : Nat) (f g : Nat → Nat) (w : World) (hs : Sl w a la f) (ht : Sl w b lb g) (hf : Byt f) (hg : Byt g) (hla : la ≤ ca) (hca : ca ≤ 9223372036854775807) (hlb : lb ≤ cb) (hcb : cb ≤ 9223372036854775807) :
    Calls Taig.prog 11 #[.slice a la ca, .slice b lb cb] w fun e w' => e = .returned (.bool true) ∧ Below w.heap.size w w' := by
  have K1 := hide (digits_any a la ca 4096 w hla hca (by decide))
  have K3 : Hid (∀ w', Calls Taig.prog 20 #[.slice b lb cb, .int .i64 4096] w' fun e w'' => e = .returned (.slice b (min lb 4096) (dcap lb cb 4096)) ∧ w' = w'') := fun w' => digits_any b lb cb 4096 w' hlb hcb (by decide)
  have m1 := Nat.min_le_left la 4096
  have m2 := Nat.min_le_right la 4096
  have m3 := Nat.min_le_left lb 4096
  have m4 := Nat.min_le_right lb 4096
  have hs2 := hs.sub m1
  have ht2 := ht.sub m3
  generalize min la 4096 = n at *
  generalize min lb 4096 = m at *
  generalize dcap la ca 4096 = c1 at *
  generalize dcap lb cb 4096 = c2 at *
  clear hs ht
  obtain ⟨A, hA⟩ : ∃ A, Hid (val f n = A) := ⟨_, rfl⟩
  obtain ⟨D, hD⟩ : ∃ D, Hid (val g m = D) := ⟨_, rfl⟩
  have lA : dlen A ≤ 4096 := by rw [← unhide hA]; exact Nat.le_trans (dlen_val_le hf n) m2
  have lD : dlen D ≤ 4096 := by rw [← unhide hD]; exact Nat.le_trans (dlen_val_le hg m) m4
  have K2 := hide (ownNat_any a n c1 f w hs2 (by omega))
  have HF := hide hf
  have HG := hide hg
  clear hf hg
  go_enter Taig.func11, Taig.ntmps11
  go_wp2_with fail
  refine (unhide K1).mono ?_
  rintro e w' ⟨rfl, rfl⟩
  go_wp2_with fail
  refine (unhide K2).mono ?_
  rintro e w1 ⟨x, rfl, ox, _, b1⟩
  have s1 := b1.size
  go_wp2_with fail
  refine (unhide K3 w1).mono ?_
  rintro e w' ⟨rfl, rfl⟩
  have K4 := hide (ownNat_any b m c2 g w1 (ht2.keep b1) (by omega))
  go_wp2_with fail
  refine (unhide K4).mono ?_
  rintro e w2 ⟨y, rfl, oy, _, b2'⟩
  have b2 := b1.trans (b2'.mono s1)
  have s2 := b2.size
  have ox2 := ox.keep b2'
  have K5 := hide (ownNat_any x n n f w2 ox2.sl (by omega))
  go_wp2_with fail
  refine (unhide K5).mono ?_
  rintro e w3 ⟨kx, rfl, okx, ikx, b3'⟩
  have b3 := b2.trans (b3'.mono s2)
  have s3 := b3.size
  have ox3 := ox2.keep b3'
  have oy3 := oy.keep b3'
  have K6 := hide (ownNat_any y m m g w3 oy3.sl (by omega))
  go_wp2_with fail
  refine (unhide K6).mono ?_
  rintro e w4 ⟨ky, rfl, oky, iky, b4'⟩
  have b4 := b3.trans (b4'.mono s3)
  have s4 := b4.size
  have ox4 := ox3.keep b4'
  have oy4 := oy3.keep b4'
  have okx4 := okx.keep b4'
  clear K1 K2 K3 K4 K5 K6 ox ox2 ox3 oy oy3 okx b1 b2 b3 b2' b3' b4' hs2 ht2
  have ntx := ox4.nt (unhide HF)
  have nty := oy4.nt (unhide HG)
  rw [unhide hA] at ntx
  rw [unhide hD] at nty
  rcases Nat.eq_zero_or_pos D with h0 | h0
  · have KD := hide (nlDiv_bad x y n n m m f g A w4 ox4.sl (unhide HF) (Nat.le_refl _) (by omega) oy4.sl (unhide HG) (Nat.le_refl _) (by omega) (unhide hA) (by rw [unhide hD, h0]))
    have KS := sound_any y m m g 0 w4 oy4.sl (unhide HG) (Nat.le_refl _) (by omega) (by rw [unhide hD, h0])
    rw [dlen_zero] at KS
    have HKS := hide KS
    clear KS h0
    have hnil := eqNil23 none 0 0
    go_wp2_with fail
    refine (unhide KD).mono ?_
    rintro e w' ⟨rfl, rfl⟩
    go_wp2_with fail
    refine (unhide HKS).mono ?_
    rintro e w5 ⟨c, rfl, nc, b5⟩
    obtain rfl : c = none := nc.1 rfl
    go_wp2
    go_ret
    exact ⟨rfl, b4.trans (b5.mono s4)⟩
  · have KD := hide (nlDiv_good x y n n m m f g A D w4 ox4.sl (unhide HF) (Nat.le_refl _) (by omega) oy4.sl (unhide HG) (Nat.le_refl _) (by omega) (unhide hA) (unhide hD) ntx nty h0 (by omega) (by omega))
    have hE : Hid (A / D * D + A % D = A) := by unfold Hid; rw [Nat.mul_comm]; exact Nat.div_add_mod A D
    have hR := hide (Nat.mod_lt A h0)
    have lQ : dlen (A / D) ≤ 4096 := Nat.le_trans (dlen_mono (Nat.div_le_self _ _)) lA
    have lR : dlen (A % D) ≤ 4096 := Nat.le_trans (dlen_mono (Nat.mod_le _ _)) lA
    have H0 := hide h0
    generalize A / D = Q at *
    generalize A % D = R at *
    clear h0
    go_wp2_with fail
    refine (unhide KD).mono ?_
    rintro e w5 ⟨q, r, rfl, nq, nr, b5'⟩
    have b5 := b4.trans (b5'.mono s4)
    have s5 := b5.size
    have s45 := b5'.size
    have ox5 := ox4.keep b5'
    have oy5 := oy4.keep b5'
    have okx5 := okx4.keep b5'
    have oky5 := oky.keep b5'
    clear KD ntx nty
    have KS := hide (sound_any y m m g D w5 oy5.sl (unhide HG) (Nat.le_refl _) (by omega) (unhide hD))
    go_wp2_with fail
    refine (unhide KS).mono ?_
    rintro e w6 ⟨sy, rfl, nsy, b6'⟩
    have b6 := b5.trans (b6'.mono s5)
    have s6 := b6.size
    have s46 := b6'.size
    have hny := eqNil23 sy (dlen D) (dlen D)
    rw [nsy.isNone, decide_eq_false (by have := unhide H0; omega)] at hny
    have KX := hide (sound_any x n n f A w6 (ox5.keep b6').sl (unhide HF) (Nat.le_refl _) (by omega) (unhide hA))
    go_wp2_with fail
    refine (unhide KX).mono ?_
    rintro e w7 ⟨sx, rfl, nsx, b7'⟩
    have b7 := b6.trans (b7'.mono s6)
    have s7 := b7.size
    have s47 := b7'.size
    have KY := hide (sound_any y m m g D w7 ((oy5.keep b6').keep b7').sl (unhide HG) (Nat.le_refl _) (by omega) (unhide hD))
    go_wp2_with fail
    refine (unhide KY).mono ?_
    rintro e w8 ⟨sy2, rfl, nsy2, b8'⟩
    have b8 := b7.trans (b8'.mono s7)
    have s8 := b8.size
    have s48 := b8'.size
    have nq8 := ((nq.keep b6').keep b7').keep b8'
    have nr8 := ((nr.keep b6').keep b7').keep b8'
    have KV := hide (divided_true sx sy2 q r A D Q R w8 ((nsx.keep b8').mono (Nat.zero_le _)) (nsy2.mono (Nat.zero_le _)) (nq8.mono (Nat.zero_le _)) (nr8.mono (Nat.zero_le _)) (unhide hE) (unhide hR) (by omega) (by omega) (by omega) (by omega))
    go_wp2_with fail
    refine (unhide KV).mono ?_
    rintro e w9 ⟨rfl, b9'⟩
    have b9 := b8.trans (b9'.mono s8)
    have s49 := b9'.size
    have b49 : Below w4.heap.size w4 w9 := (((b5'.trans (b6'.mono s45)).trans (b7'.mono (by omega))).trans (b8'.mono (by omega))).trans (b9'.mono (by omega))
    have oq9 := (nq8.keep b9').own
    have or9 := (nr8.keep b9').own
    clear KS KX KY KV nsy nsx nsy2 hny
    have KF := hide (flip_any w4.heap.size q (dlen Q) (dlen Q) (dig Q) w9 oq9 (byt_dig _) (by omega))
    go_wp2_with fail
    refine (unhide KF).mono ?_
    rintro e w10 ⟨rfl, k10, b10'⟩
    have b410 := b49.trans b10'
    obtain ⟨g10, hg10, or10⟩ := or9.byt (byt_dig _) k10
    have KF2 := hide (flip_any w4.heap.size r (dlen R) (dlen R) g10 w10 or10 hg10 (by omega))
    go_wp2_with fail
    refine (unhide KF2).mono ?_
    rintro e w11 ⟨rfl, k11, b11'⟩
    have b411 := b410.trans b11'
    have b11 : Below w.heap.size w w11 := b4.trans (b411.mono s4)
    have s411 := b411.size
    have KE := hide (sameNat_true x kx n n n f w11 (ox4.keep b411).sl (okx4.keep b411).sl ikx.symm (by omega))
    go_wp2_with fail
    refine (unhide KE).mono ?_
    rintro e w12 ⟨rfl, b12'⟩
    have b412 := b411.trans (b12'.mono s411)
    have s11 := b11.size
    have KE2 := hide (sameNat_true y ky m m m g w12 (oy4.keep b412).sl (oky.keep b412).sl iky.symm (by omega))
    go_wp2_with fail
    refine (unhide KE2).mono ?_
    rintro e w13 ⟨rfl, b13'⟩
    go_wp2
    go_ret
    have b12 := b11.trans (b12'.mono s11)
    exact ⟨rfl, b12.trans (b13'.mono b12.size)⟩
end Go.Proofs.Ygctai
