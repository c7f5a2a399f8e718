/-
  nlong.divisor.divide.
-/
import Derived.Test.YgctaiLD2
namespace Go.Proofs.Ygctai
open Go.RowKit
set_option linter.unusedVariables false
attribute [local go_sem ↓] Go.wp_at_zero Go.wp_at_succ

/-- A divisor's cells. -/
def dvc (b x : Option Addr) (D X p s : Nat) : Nat → Value
  | 0 => .slice b (dlen D) (dlen D)
  | 1 => .slice x (dlen X) (dlen X)
  | 2 => .int .i64 p
  | _ => .int .i64 s

set_option maxRecDepth 100000 in
set_option maxHeartbeats 1000000 in
theorem dvDivide_any (vb : Nat) (a b x : Option Addr) (A D X p s : Nat) (w : World) (hv : Row w vb 0 4 (dvc b x D X p s)) (ha : Nt w 0 a A) (hb : Nt w 0 b D) (hx : Nt w 0 x X) (hD : 0 < D) (hp4 : 4 ≤ p) (hp5 : p ≤ 5000) (hX : Rl D p X) (b1 : dlen A ≤ 8192) (b2 : dlen D ≤ 5000) :
    Calls Taig.prog 74 #[.pointer (some ⟨vb, 0, none⟩), .slice a (dlen A) (dlen A)] w fun e w' => ∃ q r, e = .returned (.tuple #[.slice q (dlen (A / D)) (dlen (A / D)), .slice r (dlen (A % D)) (dlen (A % D))]) ∧
      Nt w' w.heap.size q (A / D) ∧ Nt w' w.heap.size r (A % D) ∧ Below w.heap.size w w' := by
  have lX := rl_len hD (by omega) hX
  have HX := hide hX
  have HD := hide hD
  have hdl := dlen_pos hD
  clear hX hD
  have v0 := hv 0 (by omega)
  have v1 := hv 1 (by omega)
  have v2 := hv 2 (by omega)
  have v3 := hv 3 (by omega)
  simp only [Nat.zero_add, dvc] at v0 v1 v2 v3
  have hvl := hv.block_lt (by omega)
  have KC := cmp_any a b _ (dlen A) _ (dlen D) _ _ w ha.sl hb.sl (byt_dig _) (byt_dig _) (Nat.le_refl _) (Nat.le_refl _) (by omega) (by omega) (by omega) (by omega)
  rw [val_dig_dlen, val_dig_dlen] at KC
  rcases Nat.lt_or_ge A D with hAD | hAD
  · rw [cmpz_lt hAD] at KC
    have HKC := hide KC
    have E1 := hide (Nat.div_eq_of_lt hAD)
    have E2 := hide (Nat.mod_eq_of_lt hAD)
    rw [unhide E1, unhide E2, dlen_zero]
    clear KC hAD
    go_enter Taig.func74, Taig.ntmps74
    go_wp2_with fail
    refine (unhide HKC).mono ?_
    rintro e w1 ⟨rfl, hb1⟩
    have s1 := hb1.size
    have KA := add_any a none _ (dlen A) 0 0 _ (fun _ => 0) w1 (ha.keep hb1).sl (fun h => absurd h (by decide)) (byt_dig _) byt_zero (Nat.le_refl _) (Nat.le_refl _) (by omega) (by omega) (by omega) (by omega)
    rw [val_dig_dlen, val, Nat.add_zero] at KA
    have HKA := hide KA
    clear KA
    go_wp2_with fail
    refine (unhide HKA).mono ?_
    rintro e w2 ⟨rc, rfl, hrc, hb2⟩
    go_wp2
    go_ret2
    exact ⟨none, rc, rfl, Nt.nil _ _, hrc.mono s1, hb1.trans (hb2.mono s1)⟩
  · have hc0 : 0 ≤ cmpz A D ∧ cmpz A D ≤ 1 := by
      unfold cmpz; rw [if_neg (by omega)]; split <;> simp
    obtain ⟨hc1, hc2⟩ := hc0
    have HKC := hide KC
    clear KC hAD
    generalize cmpz A D = cz at *
    obtain ⟨drop, hdr⟩ : ∃ drop, Hid (drop = dlen D - 3) := ⟨_, hide rfl⟩
    have hdr2 : drop ≤ dlen D := by have := unhide hdr; omega
    obtain ⟨Q, hQ⟩ : ∃ Q, Hid (Q = A / 256 ^ drop * X / 256 ^ (dlen D + p - drop)) := ⟨_, hide rfl⟩
    have HQ : Hid (Q * D ≤ A) := rl_quot rfl hdr2 (unhide HX) (unhide hQ)
    go_enter Taig.func74, Taig.ntmps74
    go_wp2_with fail
    refine (unhide HKC).mono ?_
    rintro e w1 ⟨rfl, hb1⟩
    clear HKC
    have s1 := hb1.size
    have v0' : w1.cell? ⟨vb, 0, none⟩ = some (.slice b (dlen D) (dlen D)) := by rw [hb1.cell hvl]; exact v0
    have v1' : w1.cell? ⟨vb, 1, none⟩ = some (.slice x (dlen X) (dlen X)) := by rw [hb1.cell hvl]; exact v1
    have v2' : w1.cell? ⟨vb, 2, none⟩ = some (.int .i64 p) := by rw [hb1.cell hvl]; exact v2
    have ha1 := ha.keep hb1
    have hb1' := hb.keep hb1
    have hx1 := hx.keep hb1
    go_upto_if 23 with fail
    go_cut [6] (fun dv wc => dv = .int .i64 drop ∧ w1 = wc)
    case first =>
      by_cases h : dlen D < 3
      · go_wp2
        go_meet
        case rel => exact ⟨int_eq (by have := unhide hdr; omega), rfl⟩
      · go_wp2
        go_meet
        case rel => exact ⟨int_eq (by have := unhide hdr; omega), rfl⟩
    case rest =>
      obtain ⟨rfl, rfl⟩ := hcut
      obtain ⟨A1, hA1⟩ : ∃ A1, Hid (A / 256 ^ drop = A1) := ⟨_, rfl⟩
      have lA1 : dlen A1 ≤ 8192 := by rw [← unhide hA1, dlen_div]; omega
      have KD : Hid (Calls Taig.prog 73 #[.slice a (dlen A) (dlen A), .int .i64 drop] w1.drew fun e w' => ∃ c, e = .returned (.slice c (dlen A1) (dlen A1)) ∧ Nt w1.drew 0 c A1 ∧ w1.drew = w') := by
        have := nlDown_any 0 a A drop w1.drew ha1.drew (by omega) (by omega)
        rwa [unhide hA1] at this
      have KM : Hid (∀ c, Nt w1.drew 0 c A1 → Calls Taig.prog 79 #[.slice c (dlen A1) (dlen A1), .slice x (dlen X) (dlen X)] w1.drew fun e w' => ∃ d, e = .returned (.slice d (dlen (A1 * X)) (dlen (A1 * X))) ∧ Nt w' w1.drew.heap.size d (A1 * X) ∧ Below w1.drew.heap.size w1.drew w') := fun c hc => mulLong_any c x A1 X _ _ w1.drew hc hx1.drew lA1 (by omega) (Nat.le_refl _) (Nat.le_refl _) (by omega) (by omega)
      go_wp2
      go_cut [4] (fun qv wc => ∃ pc, qv = .slice pc (dlen (A1 * X)) (dlen (A1 * X)) ∧ Nt wc w.heap.size pc (A1 * X) ∧ Below w.heap.size w wc)
      case first =>
        go_region_with (first | (go_at_call 73; refine (unhide KD).mono ?_; rintro e w' ⟨c, rfl, hc, rfl⟩) | (go_at_call 79; refine (unhide KM _ hc).mono ?_; rintro e w2 ⟨pc, rfl, hpc, hb2⟩))
        all_goals
          go_wp2
          go_meet
          case rel => exact ⟨pc, rfl, hpc.mono s1, hb1.drew.trans (hb2.mono s1)⟩
      case rest =>
        obtain ⟨pc, rfl, hpc, hb3⟩ := hcut
        clear KD KM v0' v1' v2' ha1 hb1' hx1
        have s3 := hb3.size
        have v0' : wc.cell? ⟨vb, 0, none⟩ = some (.slice b (dlen D) (dlen D)) := by rw [hb3.cell hvl]; exact v0
        have v2' : wc.cell? ⟨vb, 2, none⟩ = some (.int .i64 p) := by rw [hb3.cell hvl]; exact v2
        have lP : dlen (A1 * X) ≤ 8192 + 5001 := dlen_mul_le lA1 (by omega)
        have hQ2 : Hid (A1 * X / 256 ^ (dlen D + p - drop) = Q) := by rw [unhide hQ, ← unhide hA1]; exact rfl
        generalize A1 * X = PP1 at *
        obtain ⟨n, hn⟩ : ∃ n, Hid (dlen D + p - drop = n) := ⟨_, rfl⟩
        rw [unhide hn] at hQ2
        have hnI : (dlen D : Int) + (p : Int) - (drop : Int) = (n : Int) := by have := unhide hn; omega
        have hnw : IntKind.i64.wrap (n : Int) = (n : Int) := by rw [IntKind.wrap_i64]; have := unhide hn; omega
        have hdw : IntKind.i64.wrap ((dlen D : Int) + (p : Int)) = (dlen D : Int) + (p : Int) := by rw [IntKind.wrap_i64]; omega
        have hn2 : n ≤ 20000 := by have := unhide hn; omega
        have KD : Hid (Calls Taig.prog 73 #[.slice pc (dlen PP1) (dlen PP1), .int .i64 n] wc.drew fun e w' => ∃ c, e = .returned (.slice c (dlen Q) (dlen Q)) ∧ Nt wc.drew 0 c Q ∧ wc.drew = w') := by
          have := nlDown_any 0 pc PP1 n wc.drew (hpc.mono (Nat.zero_le _)).drew (by omega) (by omega)
          rwa [unhide hQ2] at this
        go_wp2
        go_cut [4] (fun qv wd => ∃ qc, qv = .slice qc (dlen Q) (dlen Q) ∧ Nt wd 0 qc Q ∧ Below w.heap.size w wd)
        case first =>
          go_region_with (go_at_call 73; refine (unhide KD).mono ?_; rintro e w' ⟨c, rfl, hc, rfl⟩)
          all_goals
            go_wp2
            go_meet
            case rel => exact ⟨c, rfl, hc, hb3.drew⟩
        case rest =>
          clear v0' v2' KD hpc lP hQ2 hnI hnw hdw hn2
          obtain ⟨qc, rfl, hqc, hb4⟩ := hcut
          have s4 := hb4.size
          have v0' : wc.cell? ⟨vb, 0, none⟩ = some (.slice b (dlen D) (dlen D)) := by rw [hb4.cell hvl]; exact v0
          have hQA : Q ≤ A := by
            have : Q * 1 ≤ Q * D := Nat.mul_le_mul_left _ (unhide HD)
            have := unhide HQ
            omega
          have lQ : dlen Q ≤ 8192 := Nat.le_trans (dlen_mono hQA) b1
          have lT0 : dlen (Q * D) ≤ 8192 := Nat.le_trans (dlen_mono (unhide HQ)) b1
          have KM := hide (mulLong_any qc b Q D (dlen Q) (dlen D) wc hqc (hb.keep hb4) lQ (by omega) (Nat.le_refl _) (Nat.le_refl _) (by omega) (by omega))
          clear hQA
          obtain ⟨QD, HQD⟩ : ∃ QD, Hid (Q * D = QD) := ⟨_, rfl⟩
          rw [unhide HQD] at KM lT0 HQ
          go_wp2_with fail
          refine (unhide KM).mono ?_
          rintro e w3 ⟨tc, rfl, htc, hb5⟩
          have b5 := hb4.trans (hb5.mono s4)
          have s5 := b5.size
          have KS := sub_any a tc _ (dlen A) _ (dlen QD) _ _ w3 (ha.keep b5).sl htc.sl (byt_dig _) (byt_dig _) (Nat.le_refl _) (Nat.le_refl _) (by omega) (by omega) (by omega) (by omega)
          rw [val_dig_dlen, val_dig_dlen] at KS
          have HKS := hide KS
          clear KS KM v0'
          go_wp2_with fail
          refine (unhide HKS).mono ?_
          rintro e w4 ⟨hb6, ⟨_, rc, rfl, hrc⟩ | ⟨hlt, _⟩⟩
          case inr => have := unhide HQ; omega
          have b6 := b5.trans (hb6.mono s5)
          have s6 := b6.size
          have HR : Hid (Q * D + (A - QD) = A) := by have := unhide HQ; unfold Hid; rw [unhide HQD]; omega
          have lR : dlen (A - QD) ≤ 8192 := Nat.le_trans (dlen_mono (Nat.sub_le _ _)) b1
          generalize A - QD = R at *
          have hbk := hb.keep b6
          have hvk : Row w4 vb 0 4 (dvc b x D X p s) := hv.keep b6
          have hq4 : Nt w4 0 qc Q := ((hqc.keep hb5).keep hb6)
          have hr4 : Nt w4 w.heap.size rc R := hrc.mono (by omega)
          clear hqc hrc hb hx htc HQ HQD lT0 HKS hv ha
          go_wp2
          go_loopg [4, 5] R (fun gm qv rv wr => ∃ (Q R : Nat) (qc rc : Option Addr), R = gm ∧ qv = .slice qc (dlen Q) (dlen Q) ∧ rv = .slice rc (dlen R) (dlen R) ∧ Nt wr 0 qc Q ∧ Nt wr w.heap.size rc R ∧ dlen R ≤ 8192 ∧ dlen Q ≤ 8192 ∧ Hid (Q * D + R = A) ∧ Below w4.heap.size w4 wr)
          case atStart => exact ⟨Q, R, qc, rc, rfl, rfl, rfl, hq4, hr4, lR, lQ, HR, Below.refl _ _⟩
          case round =>
            clear hq4 hr4 lR lQ HR
            obtain ⟨Q, R, qc, rc, rfl, rfl, rfl, hq, hr, lR, lQ, HR, hbel⟩ := hrel
            have sb := hbel.size
            have hsw : w.heap.size ≤ wr.heap.size := by omega
            have v0' := (hvk.keep hbel) 0 (by omega)
            simp only [Nat.zero_add, dvc] at v0'
            have KC := cmp_any rc b _ (dlen R) _ (dlen D) _ _ wr hr.sl (hbk.keep hbel).sl (byt_dig _) (byt_dig _) (Nat.le_refl _) (Nat.le_refl _) (by omega) (by omega) (by omega) (by omega)
            rw [val_dig_dlen, val_dig_dlen] at KC
            rcases Nat.lt_or_ge R D with hRD | hRD
            · rw [cmpz_lt hRD] at KC
              have HKC := hide KC
              obtain ⟨e1, e2⟩ := div_done (unhide HR) hRD
              have E1 := hide e1
              have E2 := hide e2
              clear KC e1 e2 hRD
              go_wp2_with fail
              refine (unhide HKC).mono ?_
              rintro e w5 ⟨rfl, hb5⟩
              have s7 := hb5.size
              have KA := add_any qc none _ (dlen Q) 0 0 _ (fun _ => 0) w5 (hq.keep hb5).sl (fun h => absurd h (by decide)) (byt_dig _) byt_zero (Nat.le_refl _) (Nat.le_refl _) (by omega) (by omega) (by omega) (by omega)
              rw [val_dig_dlen, val, Nat.add_zero] at KA
              have HKA := hide KA
              clear KA
              go_wp2_with fail
              refine (unhide HKA).mono ?_
              rintro e w6 ⟨qc2, rfl, hqc2, hb6⟩
              go_wp2
              go_ret2
              rw [unhide E1, unhide E2]
              exact ⟨qc2, rc, rfl, hqc2.mono (by omega), (hr.keep hb5).keep hb6, ((b6.trans (hbel.mono (by omega))).trans (hb5.mono hsw)).trans (hb6.mono (by omega))⟩
            · have hc0 : 0 ≤ cmpz R D ∧ cmpz R D ≤ 1 := by
                unfold cmpz; rw [if_neg (by omega)]; split <;> simp
              obtain ⟨hc1, hc2⟩ := hc0
              have HKC := hide KC
              have hRD' := hide hRD
              clear KC hRD
              generalize cmpz R D = cz at *
              go_wp2_with fail
              refine (unhide HKC).mono ?_
              rintro e w5 ⟨rfl, hb5⟩
              have s5 := hb5.size
              have v0'' := ((hvk.keep hbel).keep hb5) 0 (by omega)
              simp only [Nat.zero_add, dvc] at v0''
              have KS := sub_any rc b _ (dlen R) _ (dlen D) _ _ w5 (hr.keep hb5).sl ((hbk.keep hbel).keep hb5).sl (byt_dig _) (byt_dig _) (Nat.le_refl _) (Nat.le_refl _) (by omega) (by omega) (by omega) (by omega)
              rw [val_dig_dlen, val_dig_dlen] at KS
              have HKS := hide KS
              clear KS
              go_wp2_with fail
              refine (unhide HKS).mono ?_
              rintro e w6 ⟨hb6, ⟨_, rc', rfl, hrc⟩ | ⟨hlt, _⟩⟩
              case inr => have := unhide hRD'; omega
              have s6 := hb6.size
              have lR' : dlen (R - D) ≤ 8192 := Nat.le_trans (dlen_mono (Nat.sub_le _ _)) lR
              have HR' : Hid ((Q + 1) * D + (R - D) = A) := by
                unfold Hid; rw [Nat.add_mul, Nat.one_mul]
                have := unhide HR; have := unhide hRD'; omega
              have hQ1 : dlen (Q + 1) ≤ 8192 := by
                have h1 : (Q + 1) * 1 ≤ (Q + 1) * D := Nat.mul_le_mul_left _ (unhide HD)
                have h2 := unhide HR'
                exact Nat.le_trans (dlen_mono (by omega)) b1
              have hm : Hid (R - D < R) := by have := unhide hRD'; have := unhide HD; unfold Hid; omega
              have KQ := succ_any qc _ (dlen Q) _ w6 ((hq.keep hb5).keep hb6).sl (byt_dig _) (Nat.le_refl _) (by omega) (by omega)
              rw [val_dig_dlen] at KQ
              have HKQ := hide KQ
              clear KQ
              generalize R - D = R' at *
              go_wp2_with fail
              refine (unhide HKQ).mono ?_
              rintro e w7 ⟨qc', rfl, hqc, hb7⟩
              go_wp2
              go_roundg R'
              case measure => exact unhide hm
              case rel => exact ⟨Q + 1, R', qc', rc', rfl, rfl, rfl, hqc.mono (Nat.zero_le _), (hrc.keep hb7).mono (by omega), lR', hQ1, HR', ((hbel.trans (hb5.mono sb)).trans (hb6.mono (by omega))).trans (hb7.mono (by omega))⟩
end Go.Proofs.Ygctai
