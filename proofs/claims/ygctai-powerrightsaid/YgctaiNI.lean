/-
  ntt.passes, the walk.
-/
import Derived.Test.YgctaiNH
import Derived.Test.YgctaiFftB
import Derived.Deep.DrawnRows
namespace Go.Proofs.Ygctai
open Go.RowKit
set_option linter.unusedVariables false
attribute [local go_sem ↓] Go.wp_at_zero Go.wp_at_succ

set_option maxRecDepth 100000 in
set_option maxHeartbeats 1000000 in
theorem passes_core (k N H b off cap v b2 o2 ht ct o3 hr cr : Nat) (X gt gr : Nat → Nat) (w0 w : World) (hk : k ≤ 10) (h1 : 1 ≤ k) (hN : Hid (N = 2 ^ k)) (hH2 : 2 * H = N) (hN2 : N ≤ 1024) (hcap : N ≤ cap) (hcap2 : cap ≤ 1099511627776) (hv : v < 998244353) (hw : Rtm v k)
    (hrow : Row w b off N (wrd X)) (hX : ∀ i, i < N → X i < 998244353) (hfree : Free w b off N) (htab : Row w b2 o2 (2 * ht) (frw gt)) (hft : Free w b2 o2 (2 * ht)) (hroo : Row w b2 o3 (2 * hr) (frw gr)) (hfr : Free w b2 o3 (2 * hr))
    (hht : H ≤ ht) (hhr : H ≤ hr) (hct : ht ≤ ct) (hcr : hr ≤ cr) (hct2 : ct ≤ 1099511627776) (hcr2 : cr ≤ 1099511627776) (hd : o2 + 2 * ht ≤ o3) (hbb : b2 ≠ b) (hnew : w0.heap.size ≤ b2) (hbl0 : b < w0.heap.size) (hw0 : Wr b off (off + N) w0 w) :
    Calls Taig.prog 164 #[.slice (some ⟨b, off, none⟩) N cap, .int .i64 k, .int .u32 v, .slice (some ⟨b2, o2, none⟩) ht ct, .slice (some ⟨b2, o3, none⟩) hr cr] w fun e w' => ∃ Y, e = .returned (.tuple #[]) ∧ (∀ i, i < N → Y i < 998244353 ∧ Eqm (Y i) (FM v X N i)) ∧ Row w' b off N (wrd Y) ∧ Wr b off (off + N) w0 w' := by
  have HX := hide hX
  have HW := hide hw
  clear hX hw
  have hN0 : 0 < N := by rw [unhide hN]; exact Nat.two_pow_pos k
  have HH : Hid (H = 2 ^ (k - 1)) := by
    unfold Hid
    have := unhide hN
    obtain ⟨m, rfl⟩ : ∃ m, k = m + 1 := ⟨k - 1, by omega⟩
    rw [Nat.pow_succ] at this
    rw [Nat.add_sub_cancel]; omega
  have hbl := hrow.block_lt hN0
  have KR := hide (ntReverse_core k N b off cap X w hk h1 hN hN2 hrow hfree)
  go_enter Taig.func164, Taig.ntmps164
  go_wp2_with fail
  refine (unhide KR).mono ?_
  rintro e w1 ⟨rfl, hrow1, hw1⟩
  obtain ⟨Y0, HY0⟩ : ∃ Y0 : Nat → Nat, Hid (Y0 = fun q => X (br k q)) := ⟨_, rfl⟩
  rw [← unhide HY0] at hrow1
  have HL0 : Hid (∀ i, i < N → Y0 i < 998244353) := fun i hi => by
    rw [unhide HY0]; exact unhide HX _ (by rw [unhide hN]; exact br_lt _ _)
  clear hrow
  go_wp2
  go_loopg [10] H (fun gq pv wr => ∃ (q : Nat) (Z : Nat → Nat), gq = H - q ∧ q ≤ H ∧ pv = .int .i64 ((2 * q : Nat) : Int) ∧ Hid (∀ s, s < q → Z (2 * s) = Y0 (2 * s) + Y0 (2 * s + 1) ∧ Z (2 * s + 1) = Y0 (2 * s) + 998244353 - Y0 (2 * s + 1)) ∧ Hid (∀ i, 2 * q ≤ i → Z i = Y0 i) ∧ Row wr b off N (wrd Z) ∧ Wr b off (off + N) w wr)
  case atStart => exact ⟨0, Y0, rfl, Nat.zero_le _, rfl, fun s h => absurd h (by omega), fun _ _ => rfl, hrow1, hw1⟩
  case round =>
    clear hrow1 hw1
    obtain ⟨q, Z, rfl, hq, rfl, hdone, hrest, hr1, hwr⟩ := hrel
    have hfx := hfree.wr hwr hbl
    by_cases hlt : q < H
    · have c1 := hr1.cell (i := 2 * q) (by omega)
      have c2 := hr1.cell (i := 2 * q + 1) (by omega)
      have f1 := hfx (2 * q) (by omega)
      have f2 := hfx (2 * q + 1) (by omega)
      simp only [wrd_at] at c1 c2
      rw [unhide hrest (2 * q) (by omega)] at c1
      rw [unhide hrest (2 * q + 1) (by omega)] at c2
      have a1 := unhide HL0 (2 * q) (by omega)
      have a2 := unhide HL0 (2 * q + 1) (by omega)
      obtain ⟨x1, hx1⟩ : ∃ x1, Hid (Y0 (2 * q) = x1) := ⟨_, rfl⟩
      obtain ⟨x2, hx2⟩ : ∃ x2, Hid (Y0 (2 * q + 1) = x2) := ⟨_, rfl⟩
      rw [unhide hx1] at c1 a1
      rw [unhide hx2] at c2 a2
      go_wp2
      go_quiet (fail)
      go_wp2
      go_roundg (H - (q + 1))
      case measure => omega
      case rel => exact ⟨q + 1, upd (upd Z (2 * q) (x1 + x2)) (2 * q + 1) (x1 + 998244353 - x2), rfl, by omega, by go_num, fun s hs => by
        by_cases e : s = q
        · subst e; rw [upd_ne _ _ (by omega), upd_at, upd_at, unhide hx1, unhide hx2]; exact ⟨rfl, rfl⟩
        · rw [upd_ne _ _ (by omega), upd_ne _ _ (by omega), upd_ne _ _ (by omega), upd_ne _ _ (by omega)]; exact unhide hdone s (by omega), fun i hi => by rw [upd_ne _ _ (by omega), upd_ne _ _ (by omega)]; exact unhide hrest i (by omega),
        ((hr1.drewN nq).wput (2 * q) (x1 + x2) (by omega) (by omega) (by omega)).wput (2 * q + 1) (x1 + 998244353 - x2) (by omega) (by omega) (by omega), ((wrN hwr nq).setCell (by omega) (by omega) _).setCell (by omega) (by omega) _⟩
    · obtain rfl : q = H := by omega
      have hz2 : Hid (∀ i, i < N → Z i < 3992977412) := fun i hi => by
        obtain ⟨e1, e2⟩ := unhide hdone (i / 2) (by omega)
        have l1 := unhide HL0 (2 * (i / 2)) (by omega)
        have l2 := unhide HL0 (2 * (i / 2) + 1) (by omega)
        rcases Nat.mod_two_eq_zero_or_one i with h | h
        · rw [show 2 * (i / 2) = i by omega] at *; omega
        · rw [show 2 * (i / 2) + 1 = i by omega] at *; omega
      have HI : Hid (InvM v X (k - 1) 1 Z) := first_invm h1 (unhide HH) (unhide HW) (fun s hs => by have := unhide hdone s hs; rw [unhide HY0] at this; exact this) (fun i hi => unhide HX i (by rw [unhide hN]; exact hi))
      have htr := htab.wr hwr (.inl hbb)
      have hrr := hroo.wr hwr (.inl hbb)
      have hftr := hft.wr hwr (htab.block_lt (by omega))
      have hfrr := hfr.wr hwr (htab.block_lt (by omega))
      have hw2 := hw0.trans hwr
      have KF := hide (factors_core b2 o2 (k - 1) q ct gt v wr (htr.sub (by omega)) (hftr.sub (by omega)) HH (by omega) (by omega) hv)
      clear htab hroo hft hfr hwr hfx htr hftr
      go_wp2_with fail
      rw [show N / 2 = q by omega]
      refine (unhide KF).mono ?_
      rintro e w3 ⟨rt, rfl, hrt, htr, hw3⟩
      have HRT := hide hrt
      clear hrt
      have hr3 := hr1.wr hw3 (.inl (Ne.symm hbb))
      have hrr3 := hrr.wr hw3 (.inr (.inr (by omega)))
      have hfr3 := hfrr.wr hw3 (hrr.block_lt (by omega))
      have hw3' := hw2.fresh hw3 hnew hbl0
      clear hr1 hrr hfrr hw2 hw3
      go_wp2
      go_loopg [13] (k - 1) (fun gk tv wr => ∃ (T : Nat) (Z gr' : Nat → Nat), gk = k - T ∧ 1 ≤ T ∧ T ≤ k ∧ tv = .int .i64 ((T : Int) + 1) ∧ Hid (InvM v X (k - T) T Z) ∧ Hid (∀ i, i < N → Z i < 3992977412) ∧ Row wr b off N (wrd Z) ∧ Row wr b2 o2 (2 * q) (frw rt) ∧ Row wr b2 o3 (2 * hr) (frw gr') ∧ Free wr b2 o3 (2 * hr) ∧ Wr b off (off + N) w0 wr)
      case atStart => exact ⟨1, Z, gr, rfl, Nat.le_refl _, h1, rfl, HI, hz2, hr3, htr, hrr3, hfr3, hw3'⟩
      case round =>
        clear hr3 htr hrr3 hfr3 hw3' HI hz2
        obtain ⟨T, Z2, gr2, rfl, hT1, hTk, rfl, HI, hz2, hr4, ht4, hro4, hfr4, hw4⟩ := hrel
        have hb2l := ht4.block_lt (by omega)
        obtain ⟨wo, rfl⟩ : ∃ x, x = wr := ⟨wr, rfl⟩
        by_cases hlt : T < k
        · obtain ⟨h, hh⟩ : ∃ h, Hid (h = 2 ^ T) := ⟨2 ^ T, hide rfl⟩
          obtain ⟨m, hm⟩ : ∃ m, Hid (m = k - (T + 1)) := ⟨k - (T + 1), hide rfl⟩
          obtain ⟨p, hp⟩ : ∃ p, Hid (p = 2 ^ m) := ⟨2 ^ m, hide rfl⟩
          have hsc : wrap64 (2 ^ T) = (h : Int) := by rw [unhide hh]; exact wrap_pow _ (by omega)
          have hsp : wrap64 (2 ^ (k - (T + 1))) = (p : Int) := by rw [unhide hp, unhide hm]; exact wrap_pow _ (by omega)
          have hkm : k = m + 1 + T := by have := unhide hm; omega
          have HKM := hide hkm
          have bT : decide ((T : Int) + 1 ≤ (k : Int)) = true := decide_eq_true (by omega)
          have hh0 : 0 < h := by rw [unhide hh]; exact Nat.two_pow_pos _
          have hp0 : 0 < p := by rw [unhide hp]; exact Nat.two_pow_pos _
          have hhp : Hid (h * p = q) := by
            unfold Hid
            rw [unhide hh, unhide hp, unhide HH, ← Nat.pow_add]
            congr 1; omega
          have hhq : h ≤ q := by rw [← unhide hhp]; exact Nat.le_mul_of_pos_right _ hp0
          have hNp : Hid (N = p * (2 * h)) := by
            unfold Hid
            rw [← hH2, ← unhide hhp, Nat.mul_comm h p, Nat.mul_left_comm]
          clear hkm
          go_wp2
          go_quiet (fail)
          simp only [hsc, hsp]
          clear hsc hsp
          go_wp2
          go_loopg [16] h (fun gj jv wr => ∃ (j : Nat) (gr3 : Nat → Nat), gj = h - j ∧ j ≤ h ∧ jv = .int .i64 j ∧ Hid (∀ i, i < j → gr3 i = rt (i * p)) ∧ Row wr b off N (wrd Z2) ∧ Row wr b2 o2 (2 * q) (frw rt) ∧ Row wr b2 o3 (2 * hr) (frw gr3) ∧ Free wr b2 o3 (2 * hr) ∧ Wr b off (off + N) w0 wr)
          case atStart => exact ⟨0, gr2, rfl, Nat.zero_le _, rfl, fun i hi => absurd hi (by omega), hr4.drewN nq, ht4.drewN nq, hro4.drewN nq, hfr4.drewN nq, wrN hw4 nq⟩
          case round =>
            clear hr4 ht4 hro4 hfr4 hw4
            obtain ⟨j, gr3, rfl, hj, rfl, hg, hr4, ht4, hro4, hfr4, hw4⟩ := hrel
            by_cases hjl : j < h
            · have hjp : j * p < q := by rw [← unhide hhp]; exact Nat.mul_lt_mul_of_pos_right hjl hp0
              have k1 := ht4.cell (i := 2 * (j * p)) (by omega)
              have k2 := ht4.cell (i := 2 * (j * p) + 1) (by omega)
              rw [frw_even, Nat.mul_comm 2 (j * p)] at k1
              rw [frw_odd, ← Nat.add_assoc, Nat.mul_comm 2 (j * p)] at k2
              have k3 := hro4.cell (i := 2 * j) (by omega)
              have k4 := hro4.cell (i := 2 * j + 1) (by omega)
              have k5 := hfr4 (2 * j) (by omega)
              have k6 := hfr4 (2 * j + 1) (by omega)
              rw [← Nat.add_assoc, Nat.mul_comm 2 j] at k4 k6
              rw [Nat.mul_comm 2 j] at k3 k5
              go_wp2
              go_roundg (h - (j + 1))
              case measure => omega
              case rel => exact ⟨j + 1, upd gr3 j (rt (j * p)), rfl, by omega, by go_num, fun i hi => by
                by_cases e : i = j
                · subst e; rw [upd_at]
                · rw [upd_ne _ _ e]; exact unhide hg i (by omega), (hr4.setOther (.inl hbb) _).setOther (.inl hbb) _, (ht4.setOther (.inr (by omega)) _).setOther (.inr (by omega)) _, hro4.fput j _ (by omega) (by omega) (by omega) rfl rfl, (hfr4.setCell _ _).setCell _ _, hw4.fresh (((Wr.refl b2 o3 (o3 + 2 * hr) _).setCell (by omega) (by omega) _).setCell (by omega) (by omega) _) hnew hbl0⟩
            · obtain rfl : j = h := by omega
              have hG : Hid (∀ i, i < j → gr3 i < 998244353 ∧ Eqm (gr3 i) (v ^ (2 ^ m * i))) := fun i hi => by
                have hjp : i * p < q := by rw [← unhide hhp]; exact Nat.mul_lt_mul_of_pos_right hi hp0
                obtain ⟨z1, z2⟩ := unhide HRT (i * p) hjp
                rw [unhide hg i hi, ← unhide hp, Nat.mul_comm p i]
                exact ⟨z1, z2⟩
              obtain ⟨wp, rfl⟩ : ∃ x, x = wr := ⟨wr, rfl⟩
              go_wp2
              go_loopg [17] p (fun gs sv wr => ∃ (c S : Nat) (Zc : Nat → Nat), gs = p - c ∧ c ≤ p ∧ sv = .int .i64 S ∧ Hid (S = c * (2 * j)) ∧ S ≤ N ∧ Hid (PassT gr3 Z2 Zc j c) ∧ Row wr b off N (wrd Zc) ∧ Row wr b2 o2 (2 * q) (frw rt) ∧ Row wr b2 o3 (2 * hr) (frw gr3) ∧ Free wr b2 o3 (2 * hr) ∧ Wr b off (off + N) w0 wr)
              case atStart => exact ⟨0, 0, Z2, rfl, Nat.zero_le _, rfl, by unfold Hid; omega, Nat.zero_le _, PassT.start _ _ _, hr4, ht4, hro4, hfr4, hw4⟩
              case round =>
                clear hr4 ht4 hro4 hfr4 hw4
                obtain ⟨c, S, Zc, rfl, hc, rfl, hS, hSN, hP, hr4, ht4, hro4, hfr4, hw4⟩ := hrel
                by_cases hcl : c < p
                · have hS2 : S + 2 * j ≤ N := by
                    have h3 : (c + 1) * (2 * j) ≤ p * (2 * j) := Nat.mul_le_mul_right _ hcl
                    rw [Nat.add_mul, Nat.one_mul, ← unhide hS, ← unhide hNp] at h3
                    exact h3
                  have hfx := Free.wr (w := w0) (w' := wr) (b := b) (off := off) (n := N) ⟨fun hn o => by rw [← hw0.frozen]; exact hfree.all hn o⟩ hw4 hbl0
                  have KB := hide (block_core b (off + S) (off + (S + j)) b2 o3 j j j j (fun i => Zc (S + i)) (fun i => Zc (S + j + i)) gr3 wr.drew (hr4.drew.shift (by omega)) (hr4.drew.shift (by omega)) (hfx.drew.shift (by omega)) (hfx.drew.shift (by omega)) (hro4.drew.sub (by omega)) hbb (by omega)
                    (fun i hi => by rw [(unhide hP).rest _ (by rw [← unhide hS]; omega)]; exact unhide hz2 _ (by omega)) (fun i hi => by rw [(unhide hP).rest _ (by rw [← unhide hS]; omega)]; exact unhide hz2 _ (by omega)) (fun i hi => (unhide hG i hi).1) (by omega) hh0)
                  have y1 : (S : Int) + (j : Int) ≤ (cap : Int) := by omega
                  have y2 : (S : Int) + 2 * (j : Int) ≤ (cap : Int) := by omega
                  have y3 : (S : Int) + (j : Int) ≤ (S : Int) + 2 * (j : Int) := by omega
                  have y4 : (j : Int) ≤ (cr : Int) := by omega
                  have y5 : (S : Int) ≤ (S : Int) + (j : Int) := by omega
                  have y6 : (0 : Int) ≤ (S : Int) + (j : Int) := by omega
                  have y7 : (0 : Int) ≤ (S : Int) + 2 * (j : Int) := by omega
                  have y8 : (0 : Int) ≤ (j : Int) := by omega
                  have e1 : IntKind.i64.wrap ((S : Int) + (j : Int)) = (S : Int) + (j : Int) := by rw [IntKind.wrap_i64]; omega
                  have e2 : IntKind.i64.wrap (2 * (j : Int)) = 2 * (j : Int) := by rw [IntKind.wrap_i64]; omega
                  have e3 : IntKind.i64.wrap ((S : Int) + 2 * (j : Int)) = (S : Int) + 2 * (j : Int) := by rw [IntKind.wrap_i64]; omega
                  have T1 : Hid (((S : Int) + (j : Int)).toNat = S + j) := by unfold Hid; omega
                  have T2 : Hid (((S : Int) + 2 * (j : Int)).toNat = S + 2 * j) := by unfold Hid; omega
                  have T3 : Hid (S + j - S = j) := by unfold Hid; omega
                  have T4 : Hid (S + 2 * j - (S + j) = j) := by unfold Hid; omega
                  have T5 : Hid (¬ (S + j = S)) := by unfold Hid; omega
                  have T6 : Hid (¬ (S + 2 * j = S + j)) := by unfold Hid; omega
                  go_wp2
                  go_region_with (go_at_call 172; rw [unhide T1, unhide T2, if_neg (unhide T5), if_neg (unhide T6), unhide T3, unhide T4]; refine (unhide KB).mono ?_; rintro e w' ⟨lo', hi', rfl, hB, r1, r2, w5⟩)
                  all_goals
                    have HB := hide hB
                    clear hB
                    go_wp2
                    go_roundg (p - (c + 1))
                    case measure => omega
                    case rel => exact ⟨c + 1, S + 2 * j, blk Zc S j lo' hi', rfl, by omega, by go_num, by unfold Hid; rw [Nat.add_mul, Nat.one_mul, unhide hS], hS2, (unhide hP).step (unhide hS) (unhide HB), row_blk hr4.drew r1 (by rw [Nat.add_assoc off S j]; exact r2) (by rw [Nat.add_assoc off S j]; exact w5), Row.wr ht4.drew w5 (.inl hbb), Row.wr hro4.drew w5 (.inl hbb), Free.wr hfr4.drew w5 (Row.block_lt ht4 (by omega)), hw4.drew.trans (w5.mono (by omega) (by omega))⟩
                · obtain rfl : c = p := by omega
                  have hSN2 : S = N := by rw [unhide hS, unhide hNp]
                  have HI2 : Hid (InvM v X m (T + 1) Zc) := by
                    have h3 := unhide HI
                    rw [show k - T = m + 1 by have := unhide HKM; omega] at h3
                    have h4 := unhide hP
                    rw [unhide hp] at h4
                    exact h4.invm (unhide HKM) (unhide HW) h3 (unhide hh) (fun i hi => (unhide hG i hi).2)
                  have hz3 : Hid (∀ i, i < N → Zc i < 3992977412) := fun i hi => (unhide hP).lt (unhide hNp) hh0 i hi
                  subst hSN2
                  go_wp2
                  go_roundg (k - (T + 1))
                  case measure => omega
                  case rel => exact ⟨T + 1, Zc, gr3, rfl, by omega, by omega, by go_num, by rw [← unhide hm]; exact HI2, hz3, hr4, ht4, hro4, hfr4, hw4⟩
        · obtain rfl : T = k := by omega
          have HI2 : Hid (∀ i, i < N → Eqm (Z2 i) (FM v X N i)) := fun i hi => by
            have h3 := unhide HI
            rw [Nat.sub_self] at h3
            have h4 := unhide hN
            subst h4
            exact invm_end h3 i hi
          clear HI
          go_wp2
          go_loopg [18] N (fun gi iv wr => ∃ (i : Nat) (Y : Nat → Nat), gi = N - i ∧ i ≤ N ∧ iv = .int .i64 i ∧ Hid (∀ s, s < i → Y s < 998244353 ∧ Eqm (Y s) (Z2 s)) ∧ Hid (∀ s, i ≤ s → Y s = Z2 s) ∧ Row wr b off N (wrd Y) ∧ Wr b off (off + N) w0 wr)
          case atStart => exact ⟨0, Z2, rfl, Nat.zero_le _, rfl, fun i hi => absurd hi (by omega), fun _ _ => rfl, hr4, hw4⟩
          case round =>
            clear hr4 ht4 hro4 hfr4 hw4
            obtain ⟨i, Y, rfl, hi, rfl, hdo, hre, hr4, hw4⟩ := hrel
            by_cases hil : i < N
            · have hfx := Free.wr (w := w0) (w' := wr) (b := b) (off := off) (n := N) ⟨fun hn o => by rw [← hw0.frozen]; exact hfree.all hn o⟩ hw4 hbl0
              have c1 := hr4.cell hil
              have f1 := hfx i hil
              simp only [wrd_at] at c1
              rw [unhide hre i (Nat.le_refl _)] at c1
              have a1 := unhide hz2 i hil
              obtain ⟨x, hx⟩ : ∃ x, Hid (Z2 i = x) := ⟨_, rfl⟩
              rw [unhide hx] at c1 a1
              have A1 := hide a1
              have aI : (x : Int) < 3992977412 := by omega
              clear a1
              go_upto_if 131 with fail
              go_cut [19] (fun uv wc => ∃ u : Nat, uv = .int .u32 u ∧ u < 1996488706 ∧ Hid (Eqm u x) ∧ wr = wc)
              case first =>
                by_cases h : 1996488706 ≤ x
                · have b1 : decide ((1996488706 : Int) ≤ (x : Int)) = true := decide_eq_true (by omega)
                  have b2' : decide (1996488706 ≤ x) = true := decide_eq_true h
                  have hI : (1996488706 : Int) ≤ (x : Int) := by omega
                  have hE : Hid (Eqm (x - 1996488706) x) := by
                    have := eqm_addP (x - 1996488706) 2
                    rw [show x - 1996488706 + PP * 2 = x by show x - 1996488706 + 998244353 * 2 = x; omega] at this
                    exact this.symm
                  have hl : Hid (1996488706 ≤ x) := h
                  first | rw [b1] | rw [b2']
                  clear h b1 b2'
                  go_wp2
                  go_meet
                  case rel => exact ⟨x - 1996488706, int_eq (by have := unhide hl; omega), by have := unhide hl; have := unhide A1; omega, hE, rfl⟩
                · have b1 : decide ((1996488706 : Int) ≤ (x : Int)) = false := decide_eq_false (by omega)
                  have b2' : decide (1996488706 ≤ x) = false := decide_eq_false h
                  have hl : Hid (x < 1996488706) := by unfold Hid; omega
                  first | rw [b1] | rw [b2']
                  clear h b1 b2'
                  go_wp2
                  go_meet
                  case rel => exact ⟨x, rfl, hl, Eqm.refl _, rfl⟩
              case rest =>
                obtain ⟨u, rfl, hu, hu2, rfl⟩ := hcut
                have KD := hide (fold_any u wr hu)
                clear aI
                go_wp2_with fail
                refine (unhide KD).mono ?_
                rintro e w' ⟨rfl, rfl⟩
                have HE : Hid (u % 998244353 < 998244353 ∧ Eqm (u % 998244353) (Z2 i)) := ⟨Nat.mod_lt _ (by decide), (eqm_mod u).trans (by rw [unhide hx]; exact unhide hu2)⟩
                go_wp2
                go_roundg (N - (i + 1))
                case measure => omega
                case rel => exact ⟨i + 1, upd Y i (u % 998244353), rfl, by omega, by go_num, fun s hs => by
                  by_cases e : s = i
                  · subst e; rw [upd_at]; exact unhide HE
                  · rw [upd_ne _ _ e]; exact unhide hdo s (by omega), fun s hs => by rw [upd_ne _ _ (by omega)]; exact unhide hre s (by omega), hr4.wput i _ hil rfl (by omega), hw4.setCell (by omega) (by omega) _⟩
            · obtain rfl : i = N := by omega
              go_wp2
              go_end0
              exact ⟨Y, rfl, fun s hs => ⟨(unhide hdo s hs).1, (unhide hdo s hs).2.trans (unhide HI2 s hs)⟩, hr4, hw4⟩
end Go.Proofs.Ygctai
