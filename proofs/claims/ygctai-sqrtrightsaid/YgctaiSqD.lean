/-
  nschool.SqrtSchool: the walk.
-/
import Derived.Test.YgctaiSqC
namespace Go.Proofs.Ygctai
open Go.RowKit
set_option linter.unusedVariables false

set_option maxRecDepth 100000 in
set_option maxHeartbeats 8000000 in
theorem sqrtSchool_any (a : Option Addr) (A : Nat) (w : World) (ha : Nt w 0 a A) (lA : dlen A ≤ 1048576) :
    Calls Taig.prog 27 #[.slice a (dlen A) (dlen A)] w fun e w' => ∃ q r S R, e = .returned (.tuple #[.slice q (dlen S) (dlen S), .slice r (dlen R) (dlen R)]) ∧
      Nt w' w.heap.size q S ∧ Nt w' w.heap.size r R ∧ S * S + R = A ∧ R ≤ 2 * S ∧ Below w.heap.size w w' := by
  obtain ⟨N, HN⟩ : ∃ N, Hid (dlen A / 2 + 2 = N) := ⟨_, rfl⟩
  have hNI : (dlen A : Int) / 2 + 2 = (N : Int) := by have := unhide HN; omega
  have hN2 : 2 ≤ N ∧ N ≤ 1048576 := by have := unhide HN; omega
  obtain ⟨hN3, hN4⟩ := hN2
  have hI : (8 * (dlen A : Int) + 1) / 2 = 4 * (dlen A : Int) := by omega
  have hI2 : (8 * (dlen A : Int) + 1).tdiv 2 = 4 * (dlen A : Int) := by rw [Int.tdiv_eq_ediv_of_nonneg (by omega)]; exact hI
  have hm1 := make22 N (by omega)
  have hm2 : ∀ w, (Instr.makeSlice 22 (.int .i64 ((N : Int) + 1)) (.int .i64 ((N : Int) + 1))).run Taig.prog w = .ok (.slice (some ⟨w.heap.size, 0, none⟩) (N + 1) (N + 1)) (w.alloc (made (.int .u8 0) (N + 1) 5)) := fun w => make22 (N + 1) (by omega) w
  have HF : Hid (∀ l R F v, SqS A l R F → v ≤ 3 → 4 * F + v < 256 ^ (N + 1) ∧ 4 * R + 1 < 256 ^ (N + 1) ∧ 2 * R + 1 < 256 ^ N ∧ 2 * F + 1 < 256 ^ (N + 1) ∧ 2 * R < 256 ^ (N + 1) ∧ R < 256 ^ (N + 1)) := fun l R F v h hv => by
    have h1 := sq_small h
    have h2 := sq_fits (A := A) h1 h.le hv
    rw [show N + 1 = dlen A / 2 + 1 + 1 + 1 by rw [← unhide HN], pow256_succ (dlen A / 2 + 1 + 1), pow256_succ (dlen A / 2 + 1), show N = dlen A / 2 + 1 + 1 by rw [← unhide HN], pow256_succ (dlen A / 2 + 1)]
    generalize 256 ^ (dlen A / 2 + 1) = M at *
    omega
  go_enter Taig.func27, Taig.ntmps27
  go_wp2
  go_cut [5, 6, 7] (fun qv rv wv wc => ∃ bq br bw, qv = .slice (some ⟨bq, 0, none⟩) N N ∧ rv = .slice (some ⟨br, 0, none⟩) (N + 1) (N + 1) ∧ wv = .slice (some ⟨bw, 0, none⟩) (N + 1) (N + 1) ∧ DivRows w.heap.size N N wc bq br bw (fun _ => 0) (fun _ => 0) (fun _ => 0) ∧ Below w.heap.size w wc)
  case first =>
    go_region
    all_goals
      go_wp2
      go_meet
      case rel =>
        refine ⟨_, _, _, rfl, rfl, rfl, ?_, below3 w _ _ _⟩
        constructor
        all_goals first
          | exact row3a w _ _ _
          | exact row3b w _ _ _
          | exact row3c w _ _ _
          | exact free3a w _ _ _
          | exact free3b w _ _ _
          | exact free3c w _ _ _
          | omega
          | (refine Nat.lt_of_lt_of_eq ?_ (size3 w _ _ _).symm; omega)
  case rest =>
    obtain ⟨bq, br, bw, rfl, rfl, rfl, hrs, hb2⟩ := hcut
    clear hm1 hm2
    go_wp2
    go_loopg [8] (4 * dlen A + 1) (fun gl iv wr => ∃ (l R F : Nat) (fq fr fw : Nat → Nat), l = gl ∧ l ≤ 4 * dlen A + 1 ∧ iv = .int .i64 ((l : Int) - 1) ∧ Byt fq ∧ Byt fr ∧ Byt fw ∧ DivRows w.heap.size N N wr bq br bw fq fr fw ∧ Hid (val fq N = R) ∧ Hid (val fr (N + 1) = F) ∧ Hid (SqS A l R F) ∧ Below w.heap.size w wr)
    case atStart =>
      have h0 : A / 4 ^ (4 * dlen A + 1) = 0 := Nat.div_eq_of_lt (Nat.lt_of_lt_of_le (lt_pow_dlen A) (by
        rw [Nat.pow_succ, Nat.pow_mul]
        have : (4 ^ 4) ^ dlen A = 256 ^ dlen A := rfl
        rw [this]; have := pow256_pos (dlen A); omega))
      exact ⟨4 * dlen A + 1, 0, 0, fun _ => 0, fun _ => 0, fun _ => 0, rfl, Nat.le_refl _, int_eq (by omega), byt_zero, byt_zero, byt_zero, hrs, val_zero _, val_zero _, ⟨by rw [h0], by omega⟩, hb2⟩
    case round =>
      clear hrs hb2
      obtain ⟨l, R, F, fq, fr, fw, rfl, hl, rfl, hfq, hfr, hfw, hr, hvq, hvr, hsq, hbel⟩ := hrel
      have sb := hbel.size
      rcases Nat.eq_zero_or_pos l with h0 | h0
      · subst h0
        have hs0 := (unhide hsq).sum
        have hl0 := (unhide hsq).le
        rw [Nat.pow_zero, Nat.div_one] at hs0
        have K1 := normal_any (some ⟨bq, 0, none⟩) N N fq wr (fun _ => ⟨_, _, rfl, hr.rq⟩) hfq (Nat.le_refl _) (by omega) (by omega)
        rw [unhide hvq] at K1
        have HK1 := hide K1
        have hsr : Sl wr (some ⟨br, 0, none⟩) (N + 1) fr := fun _ => ⟨_, _, rfl, hr.rr⟩
        have HS0 := hide hs0
        have HL0 := hide hl0
        clear K1 hr hs0 hl0 hsq
        go_wp2_with fail
        refine (unhide HK1).mono ?_
        rintro e w4 ⟨qc, rfl, hqc, hb4⟩
        have s4 := hb4.size
        have K2 := normal_any (some ⟨br, 0, none⟩) (N + 1) (N + 1) fr w4 (hsr.keep hb4) hfr (Nat.le_refl _) (by omega) (by omega)
        rw [unhide hvr] at K2
        have HK2 := hide K2
        clear K2
        go_wp2_with fail
        refine (unhide HK2).mono ?_
        rintro e w5 ⟨rc, rfl, hrc, hb5⟩
        go_wp2
        go_ret2
        exact ⟨qc, rc, R, F, rfl, (hqc.keep hb5).mono (by omega), hrc.mono (by omega), HS0, HL0, (hbel.trans (hb4.mono (by omega))).trans (hb5.mono (by omega))⟩
      · obtain ⟨i, rfl⟩ : ∃ i, l = i + 1 := ⟨l - 1, by omega⟩
        obtain ⟨p1, p2, p3, p4, p5, p6⟩ := unhide HF (i + 1) R F (A / 4 ^ i % 4) (unhide hsq) (by omega)
        have hqb := quart_bits A i
        obtain ⟨b1, HB1⟩ : ∃ b1, Hid (A / 2 ^ (2 * i + 1) % 2 = b1) := ⟨_, rfl⟩
        obtain ⟨b0, HB0⟩ : ∃ b0, Hid (A / 2 ^ (2 * i) % 2 = b0) := ⟨_, rfl⟩
        have hb1' : b1 ≤ 1 := by rw [← unhide HB1]; omega
        have hb0' : b0 ≤ 1 := by rw [← unhide HB0]; omega
        rw [unhide HB1, unhide HB0] at hqb
        have hak := ha.keep hbel
        have KB1 := bit_any a A (2 * i + 1) wr hak.sl (by omega) (by omega)
        rw [unhide HB1, show ((2 * i + 1 : Nat) : Int) = 2 * (i : Int) + 1 by omega] at KB1
        have HKB1 := hide KB1
        have KB0 := fun (wx : World) (hx : Below w.heap.size w wx) => bit_any a A (2 * i) wx (ha.keep hx).sl (by omega) (by omega)
        rw [unhide HB0, show ((2 * i : Nat) : Int) = 2 * (i : Int) by omega] at KB0
        have HKB0 := hide KB0
        have e1 : (2 * F + b1) % 256 ^ (N + 1) = 2 * F + b1 := Nat.mod_eq_of_lt (by omega)
        have e2 : (2 * (2 * F + b1) + b0) % 256 ^ (N + 1) = 2 * (2 * F + b1) + b0 := Nat.mod_eq_of_lt (by rw [hqb] at p1; omega)
        have e3 : (2 * R + 0) % 256 ^ (N + 1) = 2 * R := Nat.mod_eq_of_lt (by omega)
        have e4 : (2 * (2 * R) + 1) % 256 ^ (N + 1) = 4 * R + 1 := by rw [Nat.mod_eq_of_lt (by omega)]; omega
        have e5 : (2 * R + 0) % 256 ^ N = 2 * R := Nat.mod_eq_of_lt (by omega)
        have HG : Hid (2 * (2 * F + b1) + b0 = 4 * F + A / 4 ^ i % 4) := by unfold Hid; rw [hqb]; omega
        have KD1 := double_any br 0 (N + 1) (N + 1) fr b1 wr hr.rr hr.qr hfr hb1' (by omega) (by omega)
        rw [unhide hvr, e1] at KD1
        have HKD1 := hide KD1
        have E2 := hide e2
        have E3 := hide e3
        have E4 := hide e4
        have E5 := hide e5
        clear KB1 KB0 KD1 e1 e2 e3 e4 e5 p1 p2 p3 p4 p5 p6 hqb hvr
        go_wp2_with fail
        refine (unhide HKB1).mono ?_
        rintro e w' ⟨rfl, rfl⟩
        go_wp2_with fail
        refine (unhide HKD1).mono ?_
        rintro e w2 ⟨g1, rfl, hg1, hgv1, hgr1, hwr1⟩
        have hr2 := hr.putR hwr1 hgr1
        have hb2 : Below w.heap.size w w2 := hwr1.below hbel hr.o2 sb
        have s2 := hb2.size
        have KD2 := double_any br 0 (N + 1) (N + 1) g1 b0 w2 hr2.rr hr2.qr hg1 hb0' (by omega) (by omega)
        rw [hgv1, unhide E2] at KD2
        have HKD2 := hide KD2
        clear KD2 hgv1 hr hgr1 hwr1
        go_wp2_with fail
        refine (unhide HKB0 w2 hb2).mono ?_
        rintro e w' ⟨rfl, rfl⟩
        go_wp2_with fail
        refine (unhide HKD2).mono ?_
        rintro e w3 ⟨g2, rfl, hg2, hgv2, hgr2, hwr2⟩
        have hr3 := hr2.putR hwr2 hgr2
        have hb3 : Below w.heap.size w w3 := hwr2.below hb2 hr2.o2 s2
        have s3 := hb3.size
        obtain ⟨G, HGG⟩ : ∃ G, Hid (2 * (2 * F + b1) + b0 = G) := ⟨_, rfl⟩
        rw [unhide HGG] at hgv2 HG
        have HGV := hide hgv2
        clear hgv2 hr2 hgr2 hwr2
        obtain ⟨w4, hrun4, hwr4, hrow4⟩ := clear_oct 0 w3 bw 0 (N + 1) (N + 1) fw (by omega) hr3.rw hr3.qw
        have hr4 := hr3.putW hwr4 hrow4
        have hb4 : Below w.heap.size w w4 := hwr4.below hb3 hr3.o3 s3
        have s4 := hb4.size
        obtain ⟨w5, hrun5, hwr5, hrow5⟩ := copy_oct 22 22 3 Taig.underlying22 w4 bw 0 (N + 1) (N + 1) (some ⟨bq, 0, none⟩) N N fq (fun _ => 0) hr4.rw hr4.qw (fun _ => ⟨_, _, rfl, hr4.rq⟩)
        rw [Nat.min_eq_left (Nat.le_succ _)] at hrun5 hwr5 hrow5
        have hrow5' : Row w5 bw 0 (N + 1) (oct (cutf fq N)) := hrow5
        have hr5 := hr4.putW hwr5 hrow5'
        have hb5 : Below w.heap.size w w5 := hwr5.below hb4 hr4.o3 s4
        have s5 := hb5.size
        have hcb := byt_cutf hfq N
        have hcv : val (cutf fq N) (N + 1) = R := by
          rw [val, cutf_ge fq (Nat.le_refl _), Nat.zero_mul, Nat.add_zero, val_congr N (fun i hi => cutf_lt fq hi)]; exact unhide hvq
        have KD3 := double_any bw 0 (N + 1) (N + 1) (cutf fq N) 0 w5 hr5.rw hr5.qw hcb (by omega) (by omega) (by omega)
        rw [hcv, unhide E3] at KD3
        have HKD3 := hide KD3
        clear KD3 hcv hr3 hr4 hrow4 hrow5 hrow5' hwr4 hwr5
        go_wp2_with fail
        refine (unhide HKD3).mono ?_
        rintro e w6 ⟨g3, rfl, hg3, hgv3, hgr3, hwr6⟩
        have hr6 := hr5.putW hwr6 hgr3
        have hb6 : Below w.heap.size w w6 := hwr6.below hb5 hr5.o3 s5
        have s6 := hb6.size
        have KD4 := double_any bw 0 (N + 1) (N + 1) g3 1 w6 hr6.rw hr6.qw hg3 (by omega) (by omega) (by omega)
        rw [hgv3, unhide E4] at KD4
        have HKD4 := hide KD4
        clear KD4 hgv3 hr5 hgr3 hwr6 hrun4 hrun5
        go_wp2_with fail
        refine (unhide HKD4).mono ?_
        rintro e w7 ⟨g4, rfl, hg4, hgv4, hgr4, hwr7⟩
        have hr7 := hr6.putW hwr7 hgr4
        have hb7 : Below w.heap.size w w7 := hwr7.below hb6 hr6.o3 s6
        have s7 := hb7.size
        have HV4 := hide hgv4
        have KD5 := double_any bq 0 N N fq 0 w7 hr7.rq hr7.qq hfq (by omega) (by omega) (by omega)
        rw [unhide hvq, unhide E5] at KD5
        have HKD5 := hide KD5
        clear KD5 hgv4 hr6 hgr4 hwr7
        go_wp2_with fail
        refine (unhide HKD5).mono ?_
        rintro e w8 ⟨g5, rfl, hg5, hgv5, hgr5, hwr8⟩
        have hr8 := hr7.putQ hwr8 hgr5
        have hb8 : Below w.heap.size w w8 := hwr8.below hb7 hr7.o1 s7
        have s8 := hb8.size
        have HV5 := hide hgv5
        have KL := less_any br 0 bw 0 (N + 1) (N + 1) (N + 1) g2 g4 w8 hr8.rr hr8.rw hg2 hg4 (by omega)
        rw [unhide HGV, unhide HV4] at KL
        clear hgv5 hr7 hgr5 hwr8
        rcases Nat.lt_or_ge G (4 * R + 1) with hlt | hge
        · rw [decide_eq_true hlt] at KL
          have HKL := hide KL
          have HSQ := hide (sq_leave (unhide hsq) (unhide HG) hlt)
          clear KL hlt
          go_wp2_with fail
          refine (unhide HKL).mono ?_
          rintro e w9 ⟨rfl, hb9⟩
          go_wp2
          go_roundg i
          case measure => omega
          case rel => exact ⟨i, 2 * R, G, g5, g2, g4, rfl, by omega, by go_num, hg5, hg2, hg4, hr8.keep hb9, HV5, HGV, HSQ, hb8.trans (hb9.mono s8)⟩
        · rw [decide_eq_false (by omega)] at KL
          have HKL := hide KL
          have HSQ := hide (sq_put (unhide hsq) (unhide HG) hge)
          have HGE := hide hge
          clear KL hge
          go_wp2_with fail
          refine (unhide HKL).mono ?_
          rintro e w9 ⟨rfl, hb9⟩
          have s9 := hb9.size
          have hr9 := hr8.keep hb9
          have KT := tk_any br 0 bw 0 (N + 1) (N + 1) (N + 1) g2 g4 w9 hr9.rr hr9.qr hr9.rw hr9.d3.symm hg2 hg4 (by rw [unhide HGV, unhide HV4]; exact unhide HGE) (by omega) (by omega)
          rw [unhide HGV, unhide HV4] at KT
          have HKT := hide KT
          clear KT
          go_wp2_with fail
          refine (unhide HKT).mono ?_
          rintro e w10 ⟨h, rfl, hh, hhv, hhr, hwr10⟩
          have hr10 := hr9.putR hwr10 hhr
          have hb10 : Below w.heap.size w w10 := hwr10.below (hb8.trans (hb9.mono s8)) hr9.o2 (by omega)
          have HHV := hide hhv
          have cq := hr10.rq.cell (i := 0) (by omega)
          have fq1 := hr10.qq 0 (by omega)
          have dq := hg5 0
          have hev := val_even (by omega) (unhide HV5)
          have o1 := or_one dq hev
          have HV6 := hide (val_put0 (by omega) (unhide HV5))
          simp only [Nat.zero_add, oct_at] at cq fq1
          obtain ⟨y0, HY0⟩ : ∃ y0, Hid (g5 0 + 1 = y0) := ⟨_, rfl⟩
          have hy0 : y0 < 256 := by rw [← unhide HY0]; omega
          rw [unhide HY0] at o1 HV6
          clear hhv hev
          go_wp2
          go_roundg i
          case measure => omega
          case rel => exact ⟨i, 2 * R + 1, G - (4 * R + 1), upd g5 0 y0, h, g4, rfl, by omega, by go_num, hg5.upd _ _ hy0, hh, hg4, hr10.putQ ((Wr.refl bq 0 N w10).setCell (Nat.zero_le _) (by omega) _) (hr10.rq.put 0 y0 (by omega) rfl rfl), HV6, HHV, HSQ, hb10.setCell hr10.o1 _⟩
end Go.Proofs.Ygctai
