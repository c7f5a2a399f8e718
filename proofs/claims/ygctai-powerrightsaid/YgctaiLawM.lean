/-
  law.PowerRight.
-/
import Derived.Test.YgctaiRA
import Derived.Test.YgctaiQZ
import Derived.Test.YgctaiLawL
namespace Go.Proofs.Ygctai
open Go.RowKit
set_option linter.unusedVariables false

/-- Power, of whatever exponent. -/
theorem power_any (a : Option Addr) (la ca e : Nat) (f : Nat → Nat) (w : World) (hs : Sl w a la f) (hf : Byt f) (hla : la ≤ 512) (he : e < 65536) :
    Calls Taig.prog 31 #[.slice a la ca, .int .u16 (e : Int)] w fun e' w' => ∃ a' m cap ks vs, e' = .returned (.slice a' m cap) ∧ m ≤ 128 ∧ Scr w' a' m ks vs ∧ (dlen (val f la ^ e) ≤ 512 → One (rn ks vs m) (val f la ^ e)) ∧ Below w.heap.size w w' := by
  rcases Nat.eq_zero_or_pos e with rfl | h0
  · refine (power_zero a la ca w).mono ?_
    rintro e' w' ⟨a', m, cap, ks, vs, rfl, h1, h2, h3, h4⟩
    exact ⟨a', m, cap, ks, vs, rfl, h1, h2, fun _ => by rw [Nat.pow_zero]; exact h3, h4⟩
  · exact power_pos a la ca e f w hs hf hla h0 he

set_option maxRecDepth 100000 in
set_option maxHeartbeats 2000000 in
theorem powr_any (a : Option Addr) (la ca e : Nat) (f : Nat → Nat) (w : World) (hs : Sl w a la f) (hf : Byt f) (hla : la ≤ ca) (hca : ca ≤ 9223372036854775807) (he : e < 65536) :
    Calls Taig.prog 9 #[.slice a la ca, .int .u16 (e : Int)] w fun e' w' => e' = .returned (.bool true) ∧ Below w.heap.size w w' := by
  have K1 := hide (digits_any a la ca 512 w hla hca (by decide))
  have m1 := Nat.min_le_left la 512
  have m2 := Nat.min_le_right la 512
  have hcc := dcap_ge (n := 512) hla
  have hcd := dcap_le (n := 512) hla
  have hs2 := hs.sub m1
  generalize min la 512 = n at *
  generalize dcap la ca 512 = c1 at *
  clear hs m1
  have K2 := hide (power_any a n c1 e f w hs2 hf m2 he)
  have HS := hide hs2
  clear hs2
  go_enter Taig.func9, Taig.ntmps9
  go_wp2_with fail
  refine (unhide K1).mono ?_
  rintro e' w' ⟨rfl, rfl⟩
  go_wp2_with fail
  refine (unhide K2).mono ?_
  rintro e' w1 ⟨a', m, cap, ks, vs, rfl, hm, hsc, hrun, hb1⟩
  have HSC := hide hsc
  have HRUN := hide hrun
  have K32 := hide (tower_any a' m cap ks vs w1 hsc hm)
  have eM : decide ((128 : Int) < (m : Int)) = false := by simp; omega
  clear hsc hrun K1 K2
  go_wp2_with fail
  refine (unhide K32).mono ?_
  rintro e' w2 ⟨rfl, hb2⟩
  have bw2 : Below w.heap.size w w2 := hb1.trans (hb2.mono hb1.size)
  have K15 := take_any a n c1 f w2 ((unhide HS).keep bw2) hf hcc (by omega)
  rw [Nat.min_eq_left (by omega)] at K15
  have HK15 := hide K15
  clear K15 K32
  go_wp2_with fail
  refine (unhide HK15).mono ?_
  rintro e' w2' ⟨db, rfl, hdb, hb2'⟩
  have bw3 : Below w1.heap.size w1 (w2'.alloc (.cells #[.int .u8 1] 5)) := (hb2.trans (hb2'.mono hb2.size)).alloc (Nat.le_trans hb2.size hb2'.size) _
  have lb : dlen (val f n) ≤ 512 := Nat.le_trans (dlen_val_le hf n) m2
  have n3 : Hid (Nt (w2'.alloc (.cells #[.int .u8 1] 5)) 0 (some ⟨w2'.heap.size, 0, none⟩) (val f n ^ 0)) := by rw [Nat.pow_zero]; exact nt_one w2'
  have d1 : Hid (dlen (val f n ^ 0) = 1) := by rw [Nat.pow_zero]; exact (by decide : dlen 1 = 1)
  have HB0 := hide ((hdb.mono (Nat.zero_le _)).keep (below_alloc w2' (.cells #[.int .u8 1] 5)))
  obtain ⟨Lb, HLb⟩ : ∃ Lb, Hid (dlen (val f n) = Lb) := ⟨_, rfl⟩
  have EL := unhide HLb
  rw [EL] at lb
  clear HK15 hdb
  rw [EL]
  clear EL
  go_wp2_with fail
  generalize (w2'.alloc (.cells #[.int .u8 1] 5)) = w3 at *
  have s3 : w1.heap.size ≤ w3.heap.size := bw3.size
  go_loopg [7, 8] e (fun gk wv jv wr => ∃ (j L : Nat) (d : Option Addr), gk = e - j ∧ j ≤ e ∧ wv = .slice d L L ∧ jv = .int .u16 (j : Int) ∧ Hid (dlen (val f n ^ j) = L) ∧ Hid (Nt wr 0 d (val f n ^ j)) ∧ Below w1.heap.size w1 wr ∧ Below w3.heap.size w3 wr)
  case atStart => exact ⟨0, 1, _, rfl, Nat.zero_le _, rfl, rfl, d1, n3, bw3, Below.refl _ _⟩
  case round =>
    clear d1 n3 bw3
    obtain ⟨j, L, d, rfl, hj, rfl, rfl, HL, HN, hbr, hbr3⟩ := hrel
    have HB := hide ((unhide HB0).keep hbr3)
    by_cases cj : j < e
    · by_cases cl : L ≤ 512
      · by_cases c0 : j = 0
        · have j0 : j < 1 := by omega
          clear c0 HSC HRUN
          have K23 := mul_any d db L L Lb Lb (dig (val f n ^ j)) (dig (val f n)) wr (by have := ((unhide HN).keep (Below.refl wr.heap.size wr)).sl; rw [unhide HL] at this; exact this) (by have := ((unhide HB).keep (Below.refl wr.heap.size wr)).sl; rw [unhide HLb] at this; exact this) (byt_dig _) (byt_dig _) (Nat.le_refl _) (Nat.le_refl _) (by omega) (by omega) (by omega) (by omega)
          rw [← unhide HL, val_dig_dlen, ← unhide HLb, val_dig_dlen, ← Nat.pow_succ, unhide HL, unhide HLb] at K23
          have HK := hide K23
          clear K23
          go_wp2_with fail
          refine (unhide HK).mono ?_
          rintro e' w5 ⟨d5, rfl, hn5, hb5⟩
          have HN5 : Hid (Nt w5 0 d5 (val f n ^ (j + 1))) := hn5.mono (Nat.zero_le _)
          have b5 : Below w1.heap.size w1 w5 := hbr.trans (((Below.refl wr.heap.size wr).trans (hb5.mono (Below.refl wr.heap.size wr).size)).mono hbr.size)
          have b53 : Below w3.heap.size w3 w5 := hbr3.trans (((Below.refl wr.heap.size wr).trans (hb5.mono (Below.refl wr.heap.size wr).size)).mono hbr3.size)
          obtain ⟨L5, HL5⟩ : ∃ L5, Hid (dlen (val f n ^ (j + 1)) = L5) := ⟨_, rfl⟩
          have EL := unhide HL5
          clear HK hn5
          rw [show j.succ = j + 1 from rfl, EL]
          clear EL
          go_wp2
          go_roundg (e - (j + 1))
          case measure => omega
          case rel => exact ⟨j + 1, L5, d5, rfl, by omega, rfl, rfl, HL5, HN5, b5, b53⟩
        · have j1 : 1 ≤ j := by omega
          clear c0
          rcases Nat.eq_zero_or_pos (val f n) with hz | hz
          · have zb : ((Lb : Int) == 0) = true := by
              have := unhide HLb
              rw [hz] at this
              rw [← this]; rfl
            have HZ := hide hz
            clear hz
            have HV : Hid (val f n ^ j = val f n ^ e) := by
              show val f n ^ j = val f n ^ e
              rw [unhide HZ, Nat.zero_pow (by omega), Nat.zero_pow (by omega)]
            have KL := leaves_any a' m cap ks vs d (val f n ^ j) wr ((unhide HSC).keep hbr) hm (unhide HN) (by have := unhide HL; omega) (by rw [unhide HV]; exact unhide HRUN (by rw [← unhide HV]; have := unhide HL; omega))
            rw [unhide HL] at KL
            have HKL := hide KL
            clear KL
            go_wp2_with fail
            refine (unhide HKL).mono ?_
            rintro e' w9 ⟨rfl, hb9⟩
            go_wp2
            go_ret
            exact ⟨rfl, hb1.trans ((hbr.trans (hb9.mono hbr.size)).mono hb1.size)⟩
          · have zb : ((Lb : Int) == 0) = false := by
              have := unhide HLb
              have := dlen_pos hz
              simp only [beq_eq_false_iff_ne, ne_eq]
              omega
            have K21 := hide (whole_any 1 (by decide) wr)
            go_wp2_with fail
            refine (unhide K21).mono ?_
            rintro e' w4 ⟨c, rfl, hc, hb4⟩
            have K33 := cmp_any db c Lb Lb (dlen 1) (dlen 1) (dig (val f n)) (dig 1) w4 (by have := ((unhide HB).keep hb4).sl; rw [unhide HLb] at this; exact this) hc.sl (byt_dig _) (byt_dig _) (Nat.le_refl _) (Nat.le_refl _) (by omega) (by decide) (by omega) (by decide)
            rw [← unhide HLb, val_dig_dlen, val_dig_dlen, unhide HLb] at K33
            clear K21 hc
            by_cases c1 : val f n = 1
            · rw [show cmpz (val f n) 1 = 0 by rw [c1]; exact cmpz_eq 1] at K33
              have HK3 := hide K33
              have HC := hide c1
              clear K33 c1 hz
              go_wp2_with fail
              refine (unhide HK3).mono ?_
              rintro e' w6 ⟨rfl, hb6⟩
              have b6 : Below w1.heap.size w1 w6 := hbr.trans ((hb4.trans (hb6.mono hb4.size)).mono hbr.size)
              have HN6 := hide ((unhide HN).keep (hb4.trans (hb6.mono hb4.size)))
              have HV : Hid (val f n ^ j = val f n ^ e) := by
                show val f n ^ j = val f n ^ e
                rw [unhide HC, Nat.one_pow, Nat.one_pow]
              have KL := leaves_any a' m cap ks vs d (val f n ^ j) w6 ((unhide HSC).keep b6) hm (unhide HN6) (by have := unhide HL; omega) (by rw [unhide HV]; exact unhide HRUN (by rw [← unhide HV]; have := unhide HL; omega))
              rw [unhide HL] at KL
              have HKL := hide KL
              clear KL
              go_wp2_with fail
              refine (unhide HKL).mono ?_
              rintro e' w9 ⟨rfl, hb9⟩
              go_wp2
              go_ret
              exact ⟨rfl, hb1.trans ((b6.trans (hb9.mono b6.size)).mono hb1.size)⟩
            · rw [cmpz_gt (show 1 < val f n by omega)] at K33
              have HK3 := hide K33
              clear K33 c1 hz HSC HRUN
              go_wp2_with fail
              refine (unhide HK3).mono ?_
              rintro e' w6 ⟨rfl, hb6⟩
              have b46 : Below wr.heap.size wr w6 := hb4.trans (hb6.mono hb4.size)
              have K23 := mul_any d db L L Lb Lb (dig (val f n ^ j)) (dig (val f n)) w6 (by have := ((unhide HN).keep b46).sl; rw [unhide HL] at this; exact this) (by have := ((unhide HB).keep b46).sl; rw [unhide HLb] at this; exact this) (byt_dig _) (byt_dig _) (Nat.le_refl _) (Nat.le_refl _) (by omega) (by omega) (by omega) (by omega)
              rw [← unhide HL, val_dig_dlen, ← unhide HLb, val_dig_dlen, ← Nat.pow_succ, unhide HL, unhide HLb] at K23
              have HK := hide K23
              clear K23
              go_wp2_with fail
              refine (unhide HK).mono ?_
              rintro e' w5 ⟨d5, rfl, hn5, hb5⟩
              have HN5 : Hid (Nt w5 0 d5 (val f n ^ (j + 1))) := hn5.mono (Nat.zero_le _)
              have b5 : Below w1.heap.size w1 w5 := hbr.trans ((b46.trans (hb5.mono b46.size)).mono hbr.size)
              have b53 : Below w3.heap.size w3 w5 := hbr3.trans ((b46.trans (hb5.mono b46.size)).mono hbr3.size)
              obtain ⟨L5, HL5⟩ : ∃ L5, Hid (dlen (val f n ^ (j + 1)) = L5) := ⟨_, rfl⟩
              have EL := unhide HL5
              clear HK hn5
              rw [show j.succ = j + 1 from rfl, EL]
              clear EL
              go_wp2
              go_roundg (e - (j + 1))
              case measure => omega
              case rel => exact ⟨j + 1, L5, d5, rfl, by omega, rfl, rfl, HL5, HN5, b5, b53⟩
      · have cl' : 512 < L := by omega
        clear cl
        go_wp2
        all_goals
          go_ret
          exact ⟨rfl, hb1.trans (hbr.mono hb1.size)⟩
    · have HJ : Hid (j = e) := (by omega : j = e)
      by_cases cl : L ≤ 512
      · skip
        have HV : Hid (val f n ^ j = val f n ^ e) := by show val f n ^ j = val f n ^ e; rw [unhide HJ]
        have KL := leaves_any a' m cap ks vs d (val f n ^ j) wr ((unhide HSC).keep hbr) hm (unhide HN) (by have := unhide HL; omega) (by rw [unhide HV]; exact unhide HRUN (by rw [← unhide HV]; have := unhide HL; omega))
        rw [unhide HL] at KL
        have HKL := hide KL
        clear KL
        go_wp2_with fail
        refine (unhide HKL).mono ?_
        rintro e' w9 ⟨rfl, hb9⟩
        go_wp2
        go_ret
        exact ⟨rfl, hb1.trans ((hbr.trans (hb9.mono hbr.size)).mono hb1.size)⟩
      · have cl' : 512 < L := by omega
        clear cl
        go_wp2
        all_goals
          go_ret
          exact ⟨rfl, hb1.trans (hbr.mono hb1.size)⟩
end Go.Proofs.Ygctai
