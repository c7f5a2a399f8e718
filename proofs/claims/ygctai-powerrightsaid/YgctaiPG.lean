/-
  mkara.MulKaratsuba, the walk.
-/
import Derived.Test.YgctaiPF
namespace Go.Proofs.Ygctai
open Go.RowKit
set_option linter.unusedVariables false
attribute [local go_sem ↓] Go.wp_at_zero Go.wp_at_succ

theorem Nt.wr {w w' : World} {B b lo hi : Nat} {a : Option Addr} {N : Nat} (h : Nt w B a N) (hw : Wr b lo hi w w') (hne : ∀ b' o, a = some ⟨b', o, none⟩ → b' ≠ b) : Nt w' B a N := ⟨h.1, fun hN => by
  obtain ⟨b', o, e, hB, r, f⟩ := h.2 hN
  exact ⟨b', o, e, hB, r.wr hw (.inl (hne b' o e)), f.wr hw (r.block_lt (dlen_pos hN))⟩⟩
theorem dlen_add_le3 {x y m : Nat} (h1 : dlen x ≤ m) (h2 : dlen y ≤ m) : dlen (x + y) ≤ m + 1 := by
  rw [dlen_le_iff] at *
  rw [Nat.pow_succ]
  generalize 256 ^ m = z at *
  omega

theorem kara_over {Z0 Z2 M AB h N v0 v1 : Nat} (h1 : Z0 + M * 256 ^ h + 256 ^ (2 * h) * Z2 = AB) (h2 : AB < 256 ^ N) (h3 : v0 + 256 ^ h * v1 = Z0 + 256 ^ (2 * h) * Z2) (hN : h ≤ N) : v1 + M < 256 ^ (N - h) := by
  have h4 : 256 ^ N = 256 ^ h * 256 ^ (N - h) := by rw [← Nat.pow_add, show h + (N - h) = N by omega]
  refine Nat.lt_of_mul_lt_mul_left (a := 256 ^ h) ?_
  rw [← h4, Nat.mul_add, Nat.mul_comm (256 ^ h) M]
  omega
theorem kara_end {Z0 Z2 M AB h v0 v1 : Nat} (h1 : Z0 + M * 256 ^ h + 256 ^ (2 * h) * Z2 = AB) (h3 : v0 + 256 ^ h * v1 = Z0 + 256 ^ (2 * h) * Z2) : v0 + 256 ^ h * (v1 + M) = AB := by
  rw [Nat.mul_add, Nat.mul_comm (256 ^ h) M]; omega
theorem kara_len {Z0 Z2 M AB h N : Nat} (h1 : Z0 + M * 256 ^ h + 256 ^ (2 * h) * Z2 = AB) (h2 : AB < 256 ^ N) : dlen M ≤ N - h := by
  have h3 : M * 256 ^ h < 256 ^ N := by omega
  rcases Nat.eq_zero_or_pos M with e | e
  · rw [e, dlen_zero]; exact Nat.zero_le _
  · have h4 := (dlen_le_iff (M * 256 ^ h) N).2 h3
    rw [dlen_mul_pow _ e] at h4
    omega

set_option maxRecDepth 100000 in
set_option maxHeartbeats 1000000 in
theorem mulKara_any : ∀ (L : Nat) (a b : Option Addr) (A B : Nat) (w : World), L ≤ 8 → Nt w 0 a A → Nt w 0 b B → dlen A ≤ 4096 → dlen B ≤ 4096 →
    Calls Taig.prog 156 #[.slice a (dlen A) (dlen A), .slice b (dlen B) (dlen B), .int .u8 L] w fun e w' => ∃ d, e = .returned (.slice d (dlen (A * B)) (dlen (A * B))) ∧ Nt w' w.heap.size d (A * B) ∧ Below w.heap.size w w' := by
  intro L
  induction L with
  | zero =>
    intro a b A B w _ ha hb l1 l2
    have K1 := hide (mkaraNormal_nt a A w ha (by omega))
    have K2 := hide (mkaraNormal_nt b B w hb (by omega))
    have KM := mul_any a b (dlen A) (dlen A) (dlen B) (dlen B) (dig A) (dig B) w ha.sl hb.sl (byt_dig _) (byt_dig _) (Nat.le_refl _) (Nat.le_refl _) (by omega) (by omega) (by omega) (by omega)
    rw [val_dig_dlen, val_dig_dlen] at KM
    have HKM := hide KM
    clear KM
    go_enter Taig.func156, Taig.ntmps156
    go_wp2_with fail
    refine (unhide K1).mono ?_
    rintro e w' ⟨rfl, rfl⟩
    go_wp2_with fail
    refine (unhide K2).mono ?_
    rintro e w' ⟨rfl, rfl⟩
    go_wp2_with fail
    refine (unhide HKM).mono ?_
    rintro e w' ⟨c, rfl, hn, hbe⟩
    go_wp2
    go_ret
    exact ⟨c, rfl, hn, hbe⟩
  | succ L ih =>
    intro a b A B w hL ha hb l1 l2
    have IH := hide ih
    clear ih
    have K1 := hide (mkaraNormal_nt a A w ha (by omega))
    have K2 := hide (mkaraNormal_nt b B w hb (by omega))
    have hLI : ((L + 1 : Nat) : Int) = (L : Int) + 1 := by omega
    have hL0 : (((L : Int) + 1) == 0) = false := by simp; omega
    by_cases hsm : dlen A < 8 ∨ dlen B < 8
    · have KM := mul_any a b (dlen A) (dlen A) (dlen B) (dlen B) (dig A) (dig B) w ha.sl hb.sl (byt_dig _) (byt_dig _) (Nat.le_refl _) (Nat.le_refl _) (by omega) (by omega) (by omega) (by omega)
      rw [val_dig_dlen, val_dig_dlen] at KM
      have HKM := hide KM
      clear KM
      rcases (show dlen A < 8 ∨ (¬ dlen A < 8 ∧ dlen B < 8) by omega) with h8 | ⟨h8, h9⟩
      all_goals
        clear hsm
        go_enter Taig.func156, Taig.ntmps156
        go_wp2_with fail
        refine (unhide K1).mono ?_
        rintro e w' ⟨rfl, rfl⟩
        go_wp2_with fail
        refine (unhide K2).mono ?_
        rintro e w' ⟨rfl, rfl⟩
        go_wp2_with fail
        refine (unhide HKM).mono ?_
        rintro e w' ⟨c, rfl, hn, hbe⟩
        go_wp2
        go_ret
        exact ⟨c, rfl, hn, hbe⟩
    · have hA8 : 8 ≤ dlen A := by omega
      have hB8 : 8 ≤ dlen B := by omega
      clear hsm
      obtain ⟨h, hh⟩ : ∃ h, Hid (h = (max (dlen A) (dlen B) + 1) / 2) := ⟨_, hide rfl⟩
      have hh0 : 0 < h := by have := unhide hh; omega
      have hh1 : h ≤ 2049 := by have := unhide hh; omega
      have hhA : dlen A ≤ 2 * h := by have := unhide hh; omega
      have hhB : dlen B ≤ 2 * h := by have := unhide hh; omega
      go_enter Taig.func156, Taig.ntmps156
      go_wp2_with fail
      refine (unhide K1).mono ?_
      rintro e w' ⟨rfl, rfl⟩
      go_wp2_with fail
      refine (unhide K2).mono ?_
      rintro e w' ⟨rfl, rfl⟩
      clear K1 K2
      go_upto_if 43 with fail
      go_cut [7] (fun hv wc => hv = .int .i64 h ∧ w = wc)
      case first =>
        by_cases c : dlen A < dlen B
        · go_wp2
          go_meet
          case rel => exact ⟨int_eq (by have := unhide hh; omega), rfl⟩
        · go_wp2
          go_meet
          case rel => exact ⟨int_eq (by have := unhide hh; omega), rfl⟩
      case rest =>
        obtain ⟨rfl, rfl⟩ := hcut
        have KH := hide (halves_any a A h w ha hh0 (by omega) (by omega))
        have lA1 : dlen (A / 256 ^ h) = dlen A - h := dlen_div A h
        have lB1 : dlen (B / 256 ^ h) = dlen B - h := dlen_div B h
        have lA0 : dlen (A % 256 ^ h) ≤ h := (dlen_le_iff _ _).2 (Nat.mod_lt _ (pow256_pos h))
        have lB0 : dlen (B % 256 ^ h) ≤ h := (dlen_le_iff _ _).2 (Nat.mod_lt _ (pow256_pos h))
        obtain ⟨k1, k2, k3⟩ := kara_facts (A := A) (B := B) (h := h) rfl rfl
        have KF1 := hide k1
        have KF2 := hide k2
        have KF3 := hide k3
        have LA1 := hide lA1
        have LB1 := hide lB1
        have hsA : Hid (0 < A % 256 ^ h + A / 256 ^ h) := by
          unfold Hid
          rcases Nat.eq_zero_or_pos (A % 256 ^ h + A / 256 ^ h) with e | e
          · have h1 := Nat.mod_add_div A (256 ^ h)
            obtain ⟨z1, z2⟩ := Nat.add_eq_zero_iff.1 e
            rw [z1, z2, Nat.mul_zero] at h1
            rw [← h1, Nat.zero_add, dlen_zero] at hA8; omega
          · exact e
        have hsB : Hid (0 < B % 256 ^ h + B / 256 ^ h) := by
          unfold Hid
          rcases Nat.eq_zero_or_pos (B % 256 ^ h + B / 256 ^ h) with e | e
          · have h1 := Nat.mod_add_div B (256 ^ h)
            obtain ⟨z1, z2⟩ := Nat.add_eq_zero_iff.1 e
            rw [z1, z2, Nat.mul_zero] at h1
            rw [← h1, Nat.zero_add, dlen_zero] at hB8; omega
          · exact e
        have KHB : Hid (∀ w1, Below w.heap.size w w1 → Calls Taig.prog 166 #[.slice b (dlen B) (dlen B), .int .i64 h] w1 fun e w' => ∃ c d, e = .returned (.tuple #[.slice c (dlen (B % 256 ^ h)) (dlen (B % 256 ^ h)), .slice d (dlen (B / 256 ^ h)) (dlen (B / 256 ^ h))]) ∧ Nt w' 0 c (B % 256 ^ h) ∧ Nt w' 0 d (B / 256 ^ h) ∧ Below w1.heap.size w1 w') := fun w1 hb1 => halves_any b B h w1 (hb.keep hb1) hh0 (by omega) (by omega)
        clear k1 k2 k3
        have lA1' : dlen (A / 256 ^ h) ≤ h := by omega
        have lB1' : dlen (B / 256 ^ h) ≤ h := by omega
        clear lA1 lB1
        generalize A % 256 ^ h = A0 at *
        generalize A / 256 ^ h = A1 at *
        generalize B % 256 ^ h = B0 at *
        generalize B / 256 ^ h = B1 at *
        go_wp2_with fail
        refine (unhide KH).mono ?_
        rintro e w1 ⟨a0, a1, rfl, na0, na1, b1⟩
        have s1 := b1.size
        go_wp2_with fail
        refine (unhide KHB w1 b1).mono ?_
        rintro e w2 ⟨b0, b1', rfl, nb0, nb1, b2'⟩
        have b2 := b1.trans (b2'.mono s1)
        have s2 := b2.size
        have na02 := na0.keep b2'
        have na12 := na1.keep b2'
        clear KH KHB na0 na1
        have hLw : IntKind.u8.wrap ((L : Int) + 1 - 1) = (L : Int) := by rw [IntKind.wrap_u8]; omega
        have KZ0 := hide (unhide IH a0 b0 A0 B0 w2 (by omega) na02 nb0 (by omega) (by omega))
        go_wp2_with fail
        refine (unhide KZ0).mono ?_
        rintro e w3 ⟨z0, rfl, nz0, b3'⟩
        have nz0lt : ∀ b' o, z0 = some ⟨b', o, none⟩ → b' < w3.heap.size := fun b' o e => nz0.lt e
        have b3 := b2.trans (b3'.mono s2)
        have s3 := b3.size
        have na03 := na02.keep b3'
        have na13 := na12.keep b3'
        have nb03 := nb0.keep b3'
        have nb13 := nb1.keep b3'
        have KZ2 := hide (unhide IH a1 b1' A1 B1 w3 (by omega) na13 nb13 (by omega) (by omega))
        clear KZ0 na02 na12 nb0 nb1
        go_wp2_with fail
        refine (unhide KZ2).mono ?_
        rintro e w4 ⟨z2, rfl, nz2, b4'⟩
        have nz2lt : ∀ b' o, z2 = some ⟨b', o, none⟩ → b' < w4.heap.size := fun b' o e => nz2.lt e
        have b4 := b3.trans (b4'.mono s3)
        have s4 := b4.size
        have s34 := b4'.size
        have na04 := na03.keep b4'
        have na14 := na13.keep b4'
        have nb04 := nb03.keep b4'
        have nb14 := nb13.keep b4'
        have nz04 := nz0.keep b4'
        clear KZ2 na03 na13 nb03 nb13 nz0
        have KA := add_any a0 a1 _ (dlen A0) _ (dlen A1) _ _ w4 na04.sl na14.sl (byt_dig _) (byt_dig _) (Nat.le_refl _) (Nat.le_refl _) (by omega) (by omega) (by omega) (by omega)
        rw [val_dig_dlen, val_dig_dlen] at KA
        have HKA := hide KA
        clear KA
        have lsA : dlen (A0 + A1) ≤ 2050 := Nat.le_trans (dlen_add_le3 (m := h) lA0 lA1') (by omega)
        have lsB : dlen (B0 + B1) ≤ 2050 := Nat.le_trans (dlen_add_le3 (m := h) lB0 lB1') (by omega)
        go_wp2_with fail
        refine (unhide HKA).mono ?_
        rintro e w5 ⟨c5, rfl, n5, b5'⟩
        have b5 := b4.trans (b5'.mono s4)
        have s5 := b5.size
        have s45 := b5'.size
        have KB := add_any b0 b1' _ (dlen B0) _ (dlen B1) _ _ w5 (nb04.keep b5').sl (nb14.keep b5').sl (byt_dig _) (byt_dig _) (Nat.le_refl _) (Nat.le_refl _) (by omega) (by omega) (by omega) (by omega)
        rw [val_dig_dlen, val_dig_dlen] at KB
        have HKB := hide KB
        clear KB
        go_wp2_with fail
        refine (unhide HKB).mono ?_
        rintro e w6 ⟨c6, rfl, n6, b6'⟩
        have b6 := b5.trans (b6'.mono s5)
        have s6 := b6.size
        have s56 := b6'.size
        have KZ1 := hide (unhide IH c5 c6 (A0 + A1) (B0 + B1) w6 (by omega) ((n5.keep b6').mono (Nat.zero_le _)) (n6.mono (Nat.zero_le _)) (by omega) (by omega))
        have hz1pos : Hid (0 < (A0 + A1) * (B0 + B1)) := Nat.mul_pos (unhide hsA) (unhide hsB)
        have hk1 : Hid ((A0 + A1) * (B0 + B1) = A0 * B0 + (A0 * B1 + A1 * B0) + A1 * B1) := kara1
        have lz1 : dlen ((A0 + A1) * (B0 + B1)) ≤ 4100 := dlen_mul_le (m := 2050) (n := 2050) lsA lsB
        go_wp2_with fail
        refine (unhide KZ1).mono ?_
        rintro e w7 ⟨z1, rfl, nz1, b7'⟩
        have b7 := b6.trans (b7'.mono s6)
        have s7 := b7.size
        have s67 := b7'.size
        have nz07 := ((nz04.keep b5').keep b6').keep b7'
        have nz27 := ((nz2.keep b5').keep b6').keep b7'
        clear KZ1 HKA HKB n5 n6 na04 na14 nb04 nb14 nz04 nz2
        obtain ⟨Z1, hZ1⟩ : ∃ Z1, Hid ((A0 + A1) * (B0 + B1) = Z1) := ⟨_, rfl⟩
        obtain ⟨Z0, hZ0⟩ : ∃ Z0, Hid (A0 * B0 = Z0) := ⟨_, rfl⟩
        obtain ⟨Z2, hZ2⟩ : ∃ Z2, Hid (A1 * B1 = Z2) := ⟨_, rfl⟩
        obtain ⟨M, hM⟩ : ∃ M, Hid (A0 * B1 + A1 * B0 = M) := ⟨_, rfl⟩
        rw [unhide hZ1] at nz1 hz1pos lz1 hk1 ⊢
        rw [unhide hZ0] at nz07 KF1 KF2 hk1 ⊢
        rw [unhide hZ2] at nz27 KF1 hk1 ⊢
        rw [unhide hM] at KF1 hk1
        obtain ⟨bz, oz, rfl, hBz, rz, fz⟩ := nz1.2 (unhide hz1pos)
        have hk1' := unhide hk1
        have l0 : dlen Z0 ≤ dlen Z1 := dlen_mono (by omega)
        have l2' : dlen Z2 ≤ dlen Z1 := dlen_mono (by omega)
        clear hk1'
        have KS1 := hide (subFrom_core bz oz (dlen Z1) (dlen Z1) z0 (dlen Z0) (dlen Z0) (dig Z1) (dig Z0) w7 rz fz (byt_dig _) nz07.sl (byt_dig _) (fun b' o e => by have h8 := nz0lt b' o e; omega) (by rw [val_dig_dlen, val_dig_dlen]; have := unhide hk1; omega) l0 (by omega))
        go_wp2_with fail
        refine (unhide KS1).mono ?_
        rintro e w8 ⟨f1, rfl, r1, hf1, hv1, wr8⟩
        have HV1 : Hid (val f1 (dlen Z1) = Z1 - Z0) := by unfold Hid; rw [hv1, val_dig_dlen, val_dig_dlen]
        have b8 := wr8.below b7 (show w.heap.size ≤ bz by omega) s7
        have s8 := b8.size
        have s78 := wr8.size
        have nz08 := nz07.wr wr8 (fun b' o e => by have := nz0lt b' o e; omega)
        have nz28 := nz27.wr wr8 (fun b' o e => by have := nz2lt b' o e; omega)
        have fz8 := fz.wr wr8 (rz.block_lt (dlen_pos (unhide hz1pos)))
        have HF1 := hide hf1
        clear hv1 KS1 nz07 nz27 rz fz hf1
        have KS2 := hide (subFrom_core bz oz (dlen Z1) (dlen Z1) z2 (dlen Z2) (dlen Z2) f1 (dig Z2) w8 r1 fz8 (unhide HF1) nz28.sl (byt_dig _) (fun b' o e => by have h8 := nz2lt b' o e; omega) (by rw [val_dig_dlen, unhide HV1]; have := unhide hk1; omega) l2' (by omega))
        go_wp2_with fail
        refine (unhide KS2).mono ?_
        rintro e w9 ⟨f2, rfl, r2, hf2, hv2, wr9⟩
        have HV2 : Hid (val f2 (dlen Z1) = M) := by unfold Hid; rw [hv2, val_dig_dlen, unhide HV1]; have := unhide hk1; omega
        have b9 := wr9.below b8 (show w.heap.size ≤ bz by omega) s8
        have s9 := b9.size
        have s89 := wr9.size
        have nz09 := nz08.wr wr9 (fun b' o e => by have := nz0lt b' o e; omega)
        have nz29 := nz28.wr wr9 (fun b' o e => by have := nz2lt b' o e; omega)
        have hbz9 : bz < w9.heap.size := r2.block_lt (dlen_pos (unhide hz1pos))
        have HF2 := hide hf2
        clear hv2 KS2 nz08 nz28 r1 fz8 hf2 HF1 HV1
        obtain ⟨N, hN⟩ : ∃ N, Hid (dlen A + dlen B = N) := ⟨_, rfl⟩
        have hNI : (dlen A : Int) + (dlen B : Int) = (N : Int) := by have := unhide hN; omega
        have hN1 : N ≤ 8192 := by have := unhide hN; omega
        have hhN : h < N := by have := unhide hN; have := unhide hh; omega
        have hmk := make23 N (by omega)
        have hAB : Hid (A * B < 256 ^ N) := by have h1 := unhide KF3; rw [unhide hN] at h1; exact h1
        have lZ0N : dlen Z0 ≤ N := by
          rw [dlen_le_iff]
          have h1 := unhide KF1
          have h2 := unhide hAB
          omega
        have ro := row_made w9 (.int .u8 0) N 5
        have fo := free_made w9 (.int .u8 0) N 5
        have bo := below_alloc w9 (made (.int .u8 0) N 5)
        have hsz10 : Hid ((w9.alloc (made (.int .u8 0) N 5)).heap.size = w9.heap.size + 1) := by unfold Hid; simp
        obtain ⟨w10, run10, wr10, row10⟩ := copy_oct 23 23 3 Taig.underlying23 (w9.alloc (made (.int .u8 0) N 5)) w9.heap.size 0 N N z0 (dlen Z0) (dlen Z0) (dig Z0) (fun _ => 0) ro fo (nz09.keep bo).sl
        rw [Nat.min_eq_left lZ0N] at run10 wr10 row10
        have ro10 : Row w10 w9.heap.size 0 N (oct (dig Z0)) := row10.congr fun i hi => by
          rw [oct_at, oct_at]
          by_cases c : i < dlen Z0
          · rw [if_pos c]
          · rw [if_neg c, dig_ge (by omega)]
        have fo10 := fo.wr wr10 (by rw [unhide hsz10]; omega)
        have bo10 : Below w9.heap.size w9 w10 := wr10.below bo (Nat.le_refl _) (by rw [unhide hsz10]; omega)
        have so10 := bo10.size
        have b10 := b9.trans (bo10.mono s9)
        have r210 := r2.keep bo10
        have nz210 := nz29.keep bo10
        clear ro fo bo row10 wr10 nz09 nz29 r2
        go_upto_if 96 with fail
        go_cut [13, 15] (fun zv ov wc => ∃ fo, ov = .slice (some ⟨w9.heap.size, 0, none⟩) N N ∧ Hid (Byt fo) ∧ Hid (val fo N = Z0 + 256 ^ (2 * h) * Z2) ∧ Row wc w9.heap.size 0 N (oct fo) ∧ Free wc w9.heap.size 0 N ∧ Wr w9.heap.size 0 N w10 wc)
        case first =>
          clear hmk run10
          rcases Nat.eq_zero_or_pos (dlen Z2) with hz | hz
          · have hz2 : Hid (Z2 = 0) := dlen_eq_zero.1 hz
            rw [hz]
            clear hz
            go_wp2
            go_meet
            case rel => exact ⟨dig Z0, rfl, byt_dig _, by unfold Hid; rw [unhide hz2, Nat.mul_zero, Nat.add_zero, val_dig]; exact Nat.mod_eq_of_lt ((dlen_le_iff _ _).1 lZ0N), ro10, fo10, Wr.refl _ _ _ _⟩
          · have hZ2N : 2 * h < N ∧ dlen Z2 ≤ N - 2 * h := by
              have hp : 0 < Z2 := by
                rcases Nat.eq_zero_or_pos Z2 with e | e
                · rw [e, dlen_zero] at hz; omega
                · exact e
              have h1 : 256 ^ (2 * h) * Z2 < 256 ^ N := by have := unhide KF1; have := unhide hAB; omega
              have h2 : dlen (Z2 * 256 ^ (2 * h)) ≤ N := by rw [dlen_le_iff, Nat.mul_comm]; exact h1
              rw [dlen_mul_pow _ hp] at h2
              omega
            obtain ⟨h3, h4⟩ := hZ2N
            have rs := ro10.shift (k := 2 * h) (m := N - 2 * h) (by omega)
            have fs := fo10.shift (k := 2 * h) (m := N - 2 * h) (by omega)
            rw [Nat.zero_add] at rs fs
            obtain ⟨w11, run11, wr11, row11⟩ := copy_oct 23 23 3 Taig.underlying23 w10 w9.heap.size (2 * h) (N - 2 * h) (N - 2 * h) z2 (dlen Z2) (dlen Z2) (dig Z2) (fun i => dig Z0 (2 * h + i)) rs fs nz210.sl
            rw [Nat.min_eq_left h4] at run11 wr11 row11
            have lZ02 : dlen Z0 ≤ 2 * h := (dlen_le_iff _ _).2 (unhide KF2)
            have ro11 : Row w11 w9.heap.size 0 N (oct (two Z0 Z2 h)) := fun i hi => by
              rw [oct_at]
              unfold two
              by_cases c : i < 2 * h
              · rw [if_pos c, wr11.cell _ (by omega)]; exact ro10 i hi
              · rw [if_neg c]
                have := row11 (i - 2 * h) (by omega)
                rw [show 2 * h + (i - 2 * h) = 0 + i by omega, oct_at] at this
                rw [this]
                by_cases c2 : i - 2 * h < dlen Z2
                · rw [if_pos c2]
                · rw [if_neg c2, dig_ge (by omega), dig_ge (by omega)]
            have hvt : Hid (val (two Z0 Z2 h) N = Z0 + 256 ^ (2 * h) * Z2) := two_val (unhide KF2) h4 (by omega)
            have fo11 := fo10.wr wr11 (ro10.block_lt (by omega))
            clear rs fs row11
            go_wp2
            go_meet
            case rel => exact ⟨two Z0 Z2 h, rfl, two_byt _ _ _, hvt, ro11, fo11, wr11.mono (by omega) (by omega)⟩
        case rest =>
          clear hmk run10 ro10 fo10
          obtain ⟨fo, rfl, hfo, hvo, ro, fro, wro⟩ := hcut
          have so1 := wro.size
          have b11 := wro.below b10 (show w.heap.size ≤ w9.heap.size by omega) (by have := b10.size; omega)
          have s11 := b11.size
          have r211 := r210.wr wro (.inl (by omega))
          have hbo := ro.block_lt (by omega)
          have lM : dlen M ≤ N - h := kara_len (unhide KF1) (unhide hAB)
          have hsplit : Hid (val fo h + 256 ^ h * val (fun i => fo (h + i)) (N - h) = Z0 + 256 ^ (2 * h) * Z2) := by
            unfold Hid
            rw [← unhide hvo, ← val_split, show h + (N - h) = N by omega]
          have hover : Hid (val (fun i => fo (h + i)) (N - h) + M < 256 ^ (N - h)) := kara_over (unhide KF1) (unhide hAB) (unhide hsplit) (by omega)
          have hend : Hid (val fo h + 256 ^ h * (val (fun i => fo (h + i)) (N - h) + M) = A * B) := kara_end (unhide KF1) (unhide hsplit)
          have KN1 := mkaraNormal_any (some ⟨bz, oz, none⟩) (dlen Z1) (dlen Z1) f2 wc.drew (fun _ => ⟨_, _, rfl, r211.drew⟩) (unhide HF2) (Nat.le_refl _) (by omega)
          rw [unhide HV2] at KN1
          have HKN1 := hide KN1
          clear KN1
          obtain ⟨mc, hmc⟩ : ∃ mc, Hid (nz M (some ⟨bz, oz, none⟩) = mc) := ⟨_, rfl⟩
          have hleM : dlen M ≤ dlen Z1 := by rw [← unhide HV2]; exact dlen_val_le (unhide HF2) _
          have slM : Sl wc mc (dlen M) (dig M) := fun hp => by
            have hp2 : 0 < M := by
              rcases Nat.eq_zero_or_pos M with e | e
              · rw [e, dlen_zero] at hp; omega
              · exact e
            refine ⟨bz, oz, by rw [← unhide hmc, nz_pos hp2], ?_⟩
            exact (r211.sub hleM).congr fun i hi => by rw [oct_at, oct_at, ← unhide HV2, dig_val (unhide HF2).lt (by omega)]
          have hmcne : ∀ b' o, mc = some ⟨b', o, none⟩ → b' ≠ w9.heap.size := fun b' o e => by
            rw [← unhide hmc] at e
            rcases Nat.eq_zero_or_pos M with e0 | e0
            · rw [e0, nz_zero] at e; cases e
            · rw [nz_pos e0] at e; injection e with e; injection e with e; omega
          rw [unhide hmc] at HKN1
          have ros := ro.shift (k := h) (m := N - h) (by omega)
          have fros := fro.shift (k := h) (m := N - h) (by omega)
          rw [Nat.zero_add] at ros fros
          have KAT := hide (addAt_core w9.heap.size h (N - h) (N - h) mc (dlen M) (dlen M) (fun i => fo (h + i)) (dig M) wc.drew ros.drew fros.drew (fun i => unhide hfo _) slM.drew (byt_dig _) hmcne (by rw [val_dig_dlen]; exact unhide hover) lM (by omega))
          have i1 : (0 : Int) ≤ (h : Int) := by omega
          have i2 : (h : Int) ≤ (N : Int) := by omega
          have i3 : ¬ (N = h) := by omega
          clear ros fros hover slM r211 r210
          go_wp2
          go_region_with (first | (go_at_call 165; with_reducible refine (unhide HKN1).mono ?_; rintro e w' ⟨rfl, rfl⟩) | (go_at_call 168; refine (unhide KAT).mono ?_; rintro e w12 ⟨g, rfl, rg, hg, hvg, wg⟩))
          all_goals
            have HVG : Hid (val g (N - h) = val (fun i => fo (h + i)) (N - h) + M) := by unfold Hid; rw [hvg, val_dig_dlen]
            have HG := hide hg
            have ro12 : Row w12 w9.heap.size 0 N (oct (onto fo g h)) := onto_row (by omega) ro.drew rg wg
            have fr12 : Free w12 w9.heap.size 0 N := fro.drew.wr wg hbo
            have hb12 : Below w.heap.size w w12 := wg.below b11.drew (show w.heap.size ≤ w9.heap.size by omega) (show w.heap.size ≤ wc.heap.size by omega)
            have hbyt : Byt (onto fo g h) := onto_byt (unhide hfo) (unhide HG) h
            have hvf : Hid (val (onto fo g h) N = A * B) := by unfold Hid; rw [onto_val (by omega), unhide HVG]; exact unhide hend
            have KNF := mkaraNormal_any (some ⟨w9.heap.size, 0, none⟩) N N (onto fo g h) w12 (fun _ => ⟨_, _, rfl, ro12⟩) hbyt (Nat.le_refl _) (by omega)
            have ntF := nt_of_row hbyt (show w.heap.size ≤ w9.heap.size by omega) ro12 fr12
            rw [unhide hvf] at KNF ntF
            have HKNF := hide KNF
            clear KNF hvg hg rg wg hvf
            go_wp2_with fail
            refine (unhide HKNF).mono ?_
            rintro e w' ⟨rfl, rfl⟩
            go_wp2
            go_ret
            exact ⟨_, rfl, ntF, hb12⟩
end Go.Proofs.Ygctai
