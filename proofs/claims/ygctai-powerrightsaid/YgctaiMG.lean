/-
  mlong: MulLong.
-/
import Derived.Test.YgctaiMF
import Derived.Test.YgctaiNewtE
namespace Go.Proofs.Ygctai
open Go.RowKit
set_option linter.unusedVariables false
attribute [local go_sem ↓] Go.wp_at_zero Go.wp_at_succ

theorem nt_same {w : World} {A B b o : Nat} (h1 : Row w b o (dlen A) (oct (dig A))) (h2 : Row w b o (dlen B) (oct (dig B))) (hl : dlen A = dlen B) : A = B := by
  rw [← val_dig_dlen A, ← val_dig_dlen B, ← hl]
  refine val_congr _ fun i hi => ?_
  have e1 := h1 i hi
  have e2 := h2 i (by omega)
  rw [e1] at e2
  injection e2 with e3
  injection e3 with _ e4
  exact Int.ofNat.inj e4

/-- What the sizes give. -/
theorem sizes {la s c : Nat} (hs : 0 < s) (hc : c = (la + s - 1) / s) (hl : 0 < la) : c * s ≤ la + s - 1 ∧ la ≤ c * s ∧ 0 < c := by
  have h1 := Nat.div_add_mod (la + s - 1) s
  have h2 := Nat.mod_lt (la + s - 1) hs
  rw [← hc, Nat.mul_comm] at h1
  refine ⟨by omega, by omega, ?_⟩
  rcases Nat.eq_zero_or_pos c with e | e
  · rw [e, Nat.zero_mul] at h1; omega
  · exact e

set_option maxRecDepth 100000 in
set_option maxHeartbeats 1000000 in
theorem mulLong_any (a b : Option Addr) (A B ca cb : Nat) (w : World) (ha : Nt w 0 a A) (hb : Nt w 0 b B) (l1 : dlen A ≤ 8192) (l2 : dlen B ≤ 8192) (hca : dlen A ≤ ca) (hcb : dlen B ≤ cb) (hca2 : ca ≤ 1099511627776) (hcb2 : cb ≤ 1099511627776) :
    Calls Taig.prog 79 #[.slice a (dlen A) ca, .slice b (dlen B) cb] w fun e w' => ∃ d, e = .returned (.slice d (dlen (A * B)) (dlen (A * B))) ∧ Nt w' w.heap.size d (A * B) ∧ Below w.heap.size w w' := by
  have K1 := mlongStrip_any a (dlen A) ca (dig A) w ha.sl (byt_dig _) hca (by omega)
  have K2 := mlongStrip_any b (dlen B) cb (dig B) w hb.sl (byt_dig _) hcb (by omega)
  rw [val_dig_dlen, ha.nz] at K1
  rw [val_dig_dlen, hb.nz] at K2
  have HK1 := hide K1
  have HK2 := hide K2
  clear K1 K2
  obtain ⟨V, HV⟩ : ∃ V, Hid (A * B = V) := ⟨_, rfl⟩
  rw [unhide HV]
  go_enter Taig.func79, Taig.ntmps79
  go_wp2_with fail
  refine (unhide HK1).mono ?_
  rintro e w' ⟨rfl, rfl⟩
  go_wp2_with fail
  refine (unhide HK2).mono ?_
  rintro e w' ⟨rfl, rfl⟩
  go_upto_if 20 with fail
  go_cut [0, 1] (fun av bv wc => ∃ (x y : Option Addr) (A' B' : Nat), av = .slice x (dlen A') (dlen A') ∧ bv = .slice y (dlen B') (dlen B') ∧ Nt w 0 x A' ∧ Nt w 0 y B' ∧ dlen B' ≤ dlen A' ∧ dlen A' ≤ 8192 ∧ Hid (A' * B' = V) ∧ w = wc)
  case first =>
    by_cases h : dlen A < dlen B
    · go_wp2
      go_meet
      case rel => exact ⟨b, a, B, A, rfl, rfl, hb, ha, by omega, l2, by unfold Hid; rw [Nat.mul_comm]; exact unhide HV, rfl⟩
    · go_wp2
      go_meet
      case rel => exact ⟨a, b, A, B, rfl, rfl, ha, hb, by omega, l1, HV, rfl⟩
  case rest =>
    obtain ⟨x, y, A', B', rfl, rfl, hx, hy, hle, hl8, HV2, rfl⟩ := hcut
    clear ha hb l1 l2 hca hcb hca2 hcb2 HK1 HK2
    by_cases hsm : dlen B' < 192
    · have KM := mul_any x y (dlen A') (dlen A') (dlen B') (dlen B') (dig A') (dig B') w hx.sl hy.sl (byt_dig _) (byt_dig _) (Nat.le_refl _) (Nat.le_refl _) (by omega) (by omega) (by omega) (by omega)
      rw [val_dig_dlen, val_dig_dlen, unhide HV2] at KM
      have HKM := hide KM
      clear KM
      go_wp2_with fail
      refine (unhide HKM).mono ?_
      rintro e w' ⟨c, rfl, hn, hbe⟩
      go_wp2
      go_ret
      exact ⟨c, rfl, hn, hbe⟩
    · have KW := hide (wideLog_any (dlen A') (dlen B') w (by omega) (by omega) (by omega))
      go_wp2_with fail
      refine (unhide KW).mono ?_
      rintro e w' ⟨rfl, rfl⟩
      go_wp2
      go_loopg [6] 9 (fun gj sv wr => ∃ (j s : Nat), gj = 9 - j ∧ j ≤ 9 ∧ Hid (s = 2 ^ j) ∧ sv = .int .i64 s ∧ s ≤ 512 ∧ 0 < s ∧ w = wr)
      case atStart => exact ⟨0, 1, rfl, by omega, rfl, rfl, by omega, by omega, rfl⟩
      case round =>
        obtain ⟨j, s, rfl, hj, hs, rfl, hs5, hs0, rfl⟩ := hrel
        by_cases hgo : s < dlen B' ∧ s < 512
        · obtain ⟨g1, g2⟩ := hgo
          have hj9 : j < 9 := by
            rcases Nat.lt_or_ge j 9 with h | h
            · exact h
            · have := Nat.pow_le_pow_right (show 0 < 2 by decide) h
              rw [← unhide hs] at this; omega
          have hs2 : 2 * s ≤ 512 := by
            rw [unhide hs, Nat.mul_comm, ← Nat.pow_succ]
            exact Nat.le_trans (Nat.pow_le_pow_right (by decide) hj9) (by decide)
          go_wp2
          go_roundg (9 - (j + 1))
          case measure => omega
          case rel => exact ⟨j + 1, 2 * s, rfl, by omega, by unfold Hid; rw [unhide hs, Nat.pow_succ, Nat.mul_comm], by go_num, hs2, by omega, rfl⟩
        · have h192 : 192 ≤ s := by omega
          have hsB : dlen B' ≤ s ∨ s = 512 := by omega
          have h256 : 256 ≤ s := by
            have : 8 ≤ j := by
              rcases Nat.lt_or_ge j 8 with h | h
              · have h3 := Nat.pow_le_pow_right (show 0 < 2 by decide) (show j ≤ 7 by omega)
                rw [← unhide hs] at h3; omega
              · exact h
            have h3 := Nat.pow_le_pow_right (show 0 < 2 by decide) this
            rw [← unhide hs] at h3; omega
          rcases (show ¬ s < dlen B' ∨ (s < dlen B' ∧ ¬ s < 512) by omega) with hA | ⟨hA, hA2⟩
          all_goals
            obtain ⟨b1, o1, rfl, _, r1, f1⟩ := hx.2 (by
              rcases Nat.eq_zero_or_pos A' with e | e
              · rw [e, dlen_zero] at hle; omega
              · exact e)
            obtain ⟨b2, o2, rfl, _, r2, f2⟩ := hy.2 (by
              rcases Nat.eq_zero_or_pos B' with e | e
              · rw [e, dlen_zero] at hsm; omega
              · exact e)
            obtain ⟨N, hN2⟩ : ∃ N, 2 * s = N := ⟨_, rfl⟩
            have hN : Hid (N = 2 ^ (j + 1)) := by unfold Hid; rw [← hN2, unhide hs, Nat.pow_succ, Nat.mul_comm]
            obtain ⟨nx, hnx⟩ : ∃ nx, Hid (nx = (dlen A' + s - 1) / s) := ⟨_, hide rfl⟩
            obtain ⟨ny, hny⟩ : ∃ ny, Hid (ny = (dlen B' + s - 1) / s) := ⟨_, hide rfl⟩
            obtain ⟨z1, z2, z3⟩ := sizes hs0 (unhide hnx) (by omega)
            obtain ⟨y1, y2, y3⟩ := sizes hs0 (unhide hny) (by omega)
            obtain ⟨L1, hL1⟩ : ∃ L1, Hid (L1 = N * nx) := ⟨_, hide rfl⟩
            obtain ⟨L2, hL2⟩ : ∃ L2, Hid (L2 = N * ny) := ⟨_, hide rfl⟩
            obtain ⟨Lc, hLc⟩ : ∃ Lc, Hid (Lc = (nx + ny) * s) := ⟨_, hide rfl⟩
            have hl1 : L1 ≤ 20000 := by rw [unhide hL1, ← hN2, Nat.mul_assoc, Nat.mul_comm s nx]; omega
            have hl2 : L2 ≤ 20000 := by rw [unhide hL2, ← hN2, Nat.mul_assoc, Nat.mul_comm s ny]; omega
            have hlc : Lc ≤ 20000 := by rw [unhide hLc, Nat.add_mul]; omega
            have hnx32 : nx ≤ 32 := by
              rcases Nat.lt_or_ge 32 nx with h | h
              · have := Nat.mul_le_mul_right s (show 33 ≤ nx by omega); omega
              · exact h
            have hny16 : ny ≤ 16 := by
              rcases Nat.lt_or_ge 16 ny with h | h
              · have := Nat.mul_le_mul_right s (show 17 ≤ ny by omega); omega
              · exact h
            have Z2 := hide z2
            have Y2 := hide y2
            clear z1 z2 y1 y2
            have KB := hide (blocks_any (some ⟨b1, o1, none⟩) (dlen A') (dlen A') s (j + 1) N nx L1 (dig A') w hx.sl (byt_dig _) (by omega) (by omega) hN hN2 hs0 hs5 (by omega) hl8 hnx hL1 hl1)
            go_wp2_with fail
            refine (unhide KB).mono ?_
            rintro e w1 ⟨d1, X, rfl, hX, rX, hd1, hbe1⟩
            have HX := hide hX
            clear hX
            have s1 := hbe1.size
            have hbl1 := r1.block_lt (by omega)
            have KS := hide (sameMemory_any b1 o1 b2 o2 (dlen A') (dlen A') (dlen B') (dlen B') _ _ w1 (by omega) (by omega) (by omega) (by omega) (r1.keep hbe1) (r2.keep hbe1) (f1.below hbe1 hbl1))
            go_wp2_with fail
            refine (unhide KS).mono ?_
            rintro e w2 ⟨rs, rfl, hrs, hbe2⟩
            have HRS := hide hrs
            clear hrs
            have hbe3 : Below w.heap.size w w2 := hbe1.trans (hbe2.mono s1)
            have s2 := hbe3.size
            have rX2 := rX.keep hbe2
            go_upto_if 57 with fail
            go_cut [8] (fun yv wc => ∃ (d2 : Nat) (Y : Nat → Nat), yv = .slice (some ⟨d2, 0, none⟩) L2 L2 ∧ Row wc d1 0 L1 (wrd X) ∧ Row wc d2 0 L2 (wrd Y) ∧ Hid (∀ c j', c < ny → j' < N → Y (c * N + j') < 998244353 ∧ Eqm (Y (c * N + j')) (FM (rtk (j + 1)) (bk (dig B') (dlen B') s c) N j')) ∧ Below w.heap.size w wc)
            case first =>
              cases rs with
              | true =>
                obtain ⟨q1, q2, q3⟩ := unhide HRS rfl
                subst q2 q3
                have hAB : A' = B' := nt_same r1 r2 q1
                have hxy : nx = ny := by rw [unhide hnx, unhide hny, q1]
                have hLL : L1 = L2 := by rw [unhide hL1, unhide hL2, hxy]
                have HY : Hid (∀ c j', c < ny → j' < N → X (c * N + j') < 998244353 ∧ Eqm (X (c * N + j')) (FM (rtk (j + 1)) (bk (dig B') (dlen B') s c) N j')) := by
                  rw [← hAB, ← hxy]; exact unhide HX
                have HLL := hide hLL
                clear q1 hAB hxy hLL HRS
                go_wp2
                go_meet
                case rel => exact ⟨d1, X, by rw [unhide HLL], rX2, by rw [← unhide HLL]; exact rX2, HY, hbe3⟩
              | false =>
                have KB2 := hide (blocks_any (some ⟨b2, o2, none⟩) (dlen B') (dlen B') s (j + 1) N ny L2 (dig B') w2 (hy.keep hbe3).sl (byt_dig _) (by omega) (by omega) hN hN2 hs0 hs5 (by omega) (by omega) hny hL2 hl2)
                go_wp2_with fail
                refine (unhide KB2).mono ?_
                rintro e w3 ⟨d2, Y, rfl, hY, rY, hd2, hbe4⟩
                have HY := hide hY
                clear hY
                go_wp2
                go_meet
                case rel => exact ⟨d2, Y, rfl, rX2.keep hbe4, rY, HY, hbe3.trans (hbe4.mono s2)⟩
            case rest =>
              obtain ⟨d2, Y, rfl, rX3, rY3, HY, hbe4⟩ := hcut
              have s4 := hbe4.size
              have KC := hide (convolve_core d1 d2 L1 L2 Lc s (j + 1) N nx ny (dlen A') (dlen B') X Y (dig A') (dig B') wc (by omega) (by omega) hN hN2 hs5 (byt_dig _) (byt_dig _) hL1 hL2 hLc hl1 hl2 hlc z3 y3 hny16 hnx32 Z2 Y2 rX3 rY3 (unhide HX) (unhide HY))
              go_wp2_with fail
              refine (unhide KC).mono ?_
              rintro e w5 ⟨dc, C, rfl, rC, hC, hcs, hbe5⟩
              rw [val_dig_dlen, val_dig_dlen, unhide HV2] at hcs
              have s5 := hbe5.size
              have KY := carry_any (some ⟨dc, 0, none⟩) Lc Lc C w5 (fun _ => ⟨_, _, rfl, rC⟩) hC (by omega)
              rw [hcs] at KY
              have HKY := hide KY
              clear KY hcs hC
              go_wp2_with fail
              refine (unhide HKY).mono ?_
              rintro e w6 ⟨d, rfl, hn, hbe6⟩
              go_wp2
              go_ret
              exact ⟨d, rfl, hn.mono (by omega), (hbe4.trans (hbe5.mono s4)).trans (hbe6.mono (by omega))⟩
end Go.Proofs.Ygctai
