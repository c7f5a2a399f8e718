/-
  law.DecimalLongRight.
-/
import Derived.Test.YgctaiLM2
import Derived.Test.YgctaiLB2
import Derived.Test.YgctaiLawE
namespace Go.Proofs.Ygctai
open Go.RowKit
set_option linter.unusedVariables false

theorem tenp_big2 : 256 ^ 4096 ≤ tenp 10000 := by decide +kernel
theorem txt_len {t : Nat → Nat} {m A : Nat} (hm : 0 < m) (hl : m = 1 ∨ t 0 ≠ 48) (hd : ∀ i, i < m → Dgt (t i)) (h : dec t m = A) (lA : dlen A ≤ 4096) : m ≤ 10000 := by
  rcases Nat.lt_or_ge 10000 m with h1 | h1
  · have h2 := dec_ge m hm (t := t) (by have := (hd 0 hm).1; rcases hl with h | h <;> omega)
    have h3 : tenp 10000 ≤ tenp (m - 1) := tenp_mono (by omega)
    have h4 : tenp (m - 1) ≤ A := by rw [← h]; exact h2
    have h5 := (dlen_le_iff A 4096).1 lA
    have h6 := tenp_big2
    generalize (256 : Nat) ^ 4096 = z at *
    omega
  · exact h1

set_option maxRecDepth 100000 in
set_option maxHeartbeats 1000000 in
theorem dclr_any (a : Option Addr) (la ca : Nat) (f : Nat → Nat) (w : World) (hs : Sl w a la f) (hf : Byt f) (hla : la ≤ ca) (hca : ca ≤ 9223372036854775807) :
    Calls Taig.prog 13 #[.slice a la ca] w fun e w' => e = .returned (.bool true) ∧ Below w.heap.size w w' := by
  have K1 := hide (digits_any a la ca 4096 w hla hca (by decide))
  have m1 := Nat.min_le_left la 4096
  have m2 := Nat.min_le_right la 4096
  have hs2 := hs.sub m1
  generalize min la 4096 = n at *
  generalize dcap la ca 4096 = c1 at *
  clear hs
  obtain ⟨A, hA⟩ : ∃ A, Hid (val f n = A) := ⟨_, rfl⟩
  have lA : dlen A ≤ 4096 := by rw [← unhide hA]; exact Nat.le_trans (dlen_val_le hf n) m2
  have K2 := hide (ownNat_any a n c1 f w hs2 (by omega))
  have HF := hide hf
  clear hf
  go_enter Taig.func13, Taig.ntmps13
  go_wp2_with fail
  refine (unhide K1).mono ?_
  rintro e w' ⟨rfl, rfl⟩
  go_wp2_with fail
  refine (unhide K2).mono ?_
  rintro e w2 ⟨x, rfl, ox2, _, b2⟩
  have s2 := b2.size
  have K5 := hide (ownNat_any x n n f w2 ox2.sl (by omega))
  go_wp2_with fail
  refine (unhide K5).mono ?_
  rintro e w4 ⟨kx, rfl, okx4, ikx, b4'⟩
  have b4 := b2.trans (b4'.mono s2)
  have s4 := b4.size
  have ox4 := ox2.keep b4'
  clear K1 K2 K5 ox2 b2 b4' hs2
  have ntx := ox4.nt (unhide HF)
  rw [unhide hA] at ntx
  have KD := hide (nlDecimal_any x n n f A w4 ox4.sl (unhide HF) (Nat.le_refl _) (by omega) (unhide hA) ntx lA)
  go_wp2_with fail
  refine (unhide KD).mono ?_
  rintro e w5 ⟨T, m, c, t, rfl, ht, hbt, hdg, hm0, hld, hdec, hmc, hc2, b5'⟩
  have b5 := b4.trans (b5'.mono s4)
  have s5 := b5.size
  have ox5 := ox4.keep b5'
  have okx5 := okx4.keep b5'
  have hm10 := txt_len hm0 hld hdg hdec lA
  have KR := nlRead_good (some ⟨T, 0, none⟩) m c t w5 (fun _ => ⟨_, _, rfl, ht⟩) hbt hm0 hdg hm10
  rw [hdec] at KR
  have HKR := hide KR
  have HD := hide hdec
  have HG := hide hdg
  have HL := hide hld
  clear KR hdec hdg hld KD ntx
  go_wp2_with fail
  refine (unhide HKR).mono ?_
  rintro e w6 ⟨back, rfl, hback, b6'⟩
  have b6 := b5.trans (b6'.mono s5)
  have s6 := b6.size
  have ox6 := ox5.keep b6'
  have KX := hide (sound_any x n n f A w6 ox6.sl (unhide HF) (Nat.le_refl _) (by omega) (unhide hA))
  go_wp2_with fail
  refine (unhide KX).mono ?_
  rintro e w7 ⟨sx, rfl, nsx, b7'⟩
  have b7 := b6.trans (b7'.mono s6)
  have s7 := b7.size
  have KS := decSchool_any sx (dlen A) (dlen A) (dig A) w7 nsx.sl (byt_dig _) (Nat.le_refl _) (by omega) (by omega)
  rw [val_dig_dlen] at KS
  have HKS := hide KS
  clear KS
  go_wp2_with fail
  refine (unhide HKS).mono ?_
  rintro e w8 ⟨T2, k, c2, u, rfl, b8', hT2, hu, hfu, hbu, hdu, hk0, hlu, hdecu, hkc, hc3⟩
  have b8 := b7.trans (b8'.mono s7)
  have s8 := b8.size
  have heq : dec t m = dec u k := by rw [unhide HD, hdecu]
  have hmk : m = k := Nat.le_antisymm (dec_len hdu (unhide HG) hk0 (unhide HL) hm0 heq.symm) (dec_len (unhide HG) hdu hm0 hlu hk0 heq)
  subst hmk
  have hte := dec_inj m (unhide HG) hdu heq
  have KT := hide (sameDigits_true T 0 T2 0 m c c2 t u w8 (((ht.keep b6').keep b7').keep b8') hu hte hbu (by omega))
  clear hte heq hdecu hdu hlu HD HG HL
  go_wp2_with fail
  refine (unhide KT).mono ?_
  rintro e w9 ⟨rfl, b9'⟩
  have b9 := b8.trans (b9'.mono s8)
  have s9 := b9.size
  have ox9 := ((ox6.keep b7').keep b8').keep b9'
  have okx9 := (((okx5.keep b6').keep b7').keep b8').keep b9'
  have hback9 := ((hback.keep b7').keep b8').keep b9'
  have KX2 := hide (sound_any x n n f A w9 ox9.sl (unhide HF) (Nat.le_refl _) (by omega) (unhide hA))
  go_wp2_with fail
  refine (unhide KX2).mono ?_
  rintro e w10 ⟨sx2, rfl, nsx2, b10'⟩
  have b10 := b9.trans (b10'.mono s9)
  have s10 := b10.size
  have KE := hide (sameNat_true back sx2 (dlen A) (dlen A) (dlen A) (dig A) w10 (hback9.keep b10').sl nsx2.sl (by rw [hback9.isNone, nsx2.isNone]) (by omega))
  go_wp2_with fail
  refine (unhide KE).mono ?_
  rintro e w11 ⟨rfl, b11'⟩
  have b11 := b10.trans (b11'.mono s10)
  have s11 := b11.size
  have KE2 := hide (sameNat_true x kx n n n f w11 ((ox9.keep b10').keep b11').sl ((okx9.keep b10').keep b11').sl ikx.symm (by omega))
  go_wp2_with fail
  refine (unhide KE2).mono ?_
  rintro e w12 ⟨rfl, b12'⟩
  go_wp2
  go_ret
  exact ⟨rfl, b11.trans (b12'.mono s11)⟩
end Go.Proofs.Ygctai
