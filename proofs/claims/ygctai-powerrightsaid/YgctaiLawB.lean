/-
  law.ReadSchoolRight, the walk.
-/
import Derived.Test.YgctaiLawA
import Derived.Test.YgctaiWhole
namespace Go.Proofs.Ygctai
open Go.RowKit
set_option linter.unusedVariables false

set_option maxHeartbeats 400000 in
theorem readSchool_none (a : Option Addr) (cap : Nat) (w : World) :
    Calls Taig.prog 17 #[.slice a 0 cap] w fun e w' => e = .returned (.tuple #[.slice none 0 0, .bool false]) ∧ w = w' := by
  go_enter Taig.func17, Taig.ntmps17
  go_wp2
  go_ret2
  exact ⟨rfl, rfl⟩

set_option maxRecDepth 100000 in
set_option maxHeartbeats 400000 in
theorem rsr_none (a : Option Addr) (len cap : Nat) (w : World) (c : Nat)
    (k : Hid (Calls Taig.prog 20 #[.slice a len cap, .int .i64 1300] w fun e w' => e = .returned (.slice a 0 c) ∧ w = w')) :
    Calls Taig.prog 4 #[.slice a len cap] w fun e w' => e = .returned (.bool true) ∧ Below w.heap.size w w' := by
  have hnil := eqNil23 none 0 0
  go_enter Taig.func4, Taig.ntmps4
  go_wp2_with fail
  refine (unhide k).mono ?_
  rintro e w' ⟨rfl, rfl⟩
  go_wp2_with fail
  refine (readSchool_none a c w).mono ?_
  rintro e w' ⟨rfl, rfl⟩
  go_wp2
  go_loop [6] (fun i => i = .int .i64 0) (fun _ => 0)
  case atStart => rfl
  case round =>
    subst hrel
    go_wp2
    go_ret
    exact ⟨rfl, Below.refl _ _⟩

set_option maxRecDepth 100000 in
set_option maxHeartbeats 1000000 in
theorem rsr_bad (a : Option Addr) (len cap n c : Nat) (t : Nat → Nat) (w : World) (hs : Sl w a n t) (ht : Byt t) (hn : n ≤ 1300) (i0 : Nat) (hi0 : i0 < n) (hbad : ¬ Dgt (t i0))
    (k : Hid (Calls Taig.prog 20 #[.slice a len cap, .int .i64 1300] w fun e w' => e = .returned (.slice a n c) ∧ w = w'))
    (k2 : Hid (Calls Taig.prog 17 #[.slice a n c] w fun e w' => e = .returned (.tuple #[.slice none 0 0, .bool false]) ∧ Below w.heap.size w w')) :
    Calls Taig.prog 4 #[.slice a len cap] w fun e w' => e = .returned (.bool true) ∧ Below w.heap.size w w' := by
  have hnil := eqNil23 none 0 0
  obtain ⟨b, o, rfl, r⟩ := hs (by omega)
  clear hs
  go_enter Taig.func4, Taig.ntmps4
  go_wp2_with fail
  refine (unhide k).mono ?_
  rintro e w' ⟨rfl, rfl⟩
  go_wp2_with fail
  refine (unhide k2).mono ?_
  rintro e w1 ⟨rfl, hb1⟩
  go_wp2
  go_loop [6] (fun i => ∃ k : Nat, k ≤ i0 ∧ i = .int .i64 k) (fun i => n - (intOf i).toNat)
  case atStart => exact ⟨0, Nat.zero_le _, rfl⟩
  case round =>
    obtain ⟨k, hk, rfl⟩ := hrel
    have c1 := (r.keep hb1).cell (i := k) (by omega)
    have tb := ht k
    simp only [oct_at] at c1
    by_cases hlo : t k < 48
    · go_wp2
      go_ret
      exact ⟨rfl, hb1⟩
    · by_cases hhi : 57 < t k
      · go_wp2
        go_ret
        exact ⟨rfl, hb1⟩
      · have hne : k ≠ i0 := fun e => hbad (by rw [← e]; exact ⟨by omega, by omega⟩)
        go_wp2
        go_round
        case rel => exact ⟨k + 1, by omega, by go_num⟩
        case measure => simp [intOf]; omega

set_option maxRecDepth 100000 in
set_option maxHeartbeats 2000000 in
theorem rsr_good (a : Option Addr) (len cap n c : Nat) (t : Nat → Nat) (w : World) (hs : Sl w a n t) (ht : Byt t) (hn : n ≤ 1300) (h0 : 0 < n) (hd : ∀ i, i < n → Dgt (t i)) (hnc : n ≤ c) (hc : c ≤ 9223372036854775807) (D : Nat) (hD : Hid (dec t n = D))
    (k : Hid (Calls Taig.prog 20 #[.slice a len cap, .int .i64 1300] w fun e w' => e = .returned (.slice a n c) ∧ w = w'))
    (k2 : Hid (Calls Taig.prog 17 #[.slice a n c] w fun e w' => ∃ g, e = .returned (.tuple #[.slice g (dlen D) (dlen D), .bool true]) ∧ Nt w' w.heap.size g D ∧ Below w.heap.size w w')) (bD : dlen D ≤ 1000000) :
    Calls Taig.prog 4 #[.slice a len cap] w fun e w' => e = .returned (.bool true) ∧ Below w.heap.size w w' := by
  obtain ⟨b, o, rfl, r⟩ := hs (by omega)
  have hn0 : ((n : Int) == 0) = false := by simp; omega
  go_enter Taig.func4, Taig.ntmps4
  go_wp2_with fail
  refine (unhide k).mono ?_
  rintro e w' ⟨rfl, rfl⟩
  go_wp2_with fail
  refine (unhide k2).mono ?_
  rintro e w1 ⟨g, rfl, hnt, hb1⟩
  have s1 := hb1.size
  go_wp2
  go_loop [6] (fun i => ∃ k : Nat, k ≤ n ∧ i = .int .i64 k) (fun i => n - (intOf i).toNat)
  case atStart => exact ⟨0, Nat.zero_le _, rfl⟩
  case round =>
    obtain ⟨k, hk, rfl⟩ := hrel
    by_cases hlt : k < n
    · have c1 := (r.keep hb1).cell hlt
      simp only [oct_at] at c1
      obtain ⟨d1, d2⟩ := hd k hlt
      go_wp2
      go_round
      case rel => exact ⟨k + 1, by omega, by go_num⟩
      case measure => simp [intOf]; omega
    · have c1 := (r.keep hb1).cell (i := n - 1) (by omega)
      simp only [oct_at] at c1
      obtain ⟨d1, d2⟩ := hd (n - 1) (by omega)
      have K3 := whole_any (t (n - 1) - 48) (by omega) w1
      rw [show ((t (n - 1) - 48 : Nat) : Int) = ((t (n - 1) : Nat) : Int) - 48 by omega] at K3
      have HK3 := hide K3
      have hD1 : Hid (D = 10 * dec t (n - 1) + (t (n - 1) - 48)) := by
        unfold Hid; rw [← unhide hD]
        obtain ⟨m, rfl⟩ : ∃ m, n = m + 1 := ⟨n - 1, by omega⟩
        rfl
      have HD := hide hd
      clear K3 hd
      by_cases h1 : n = 1
      · have hn1 : ((n : Int) == 1) = true := by simp; omega
        have hD2 : Hid (D = t (n - 1) - 48) := by
          have := unhide hD1
          rw [show dec t (n - 1) = 0 by rw [h1]; rfl] at this
          unfold Hid; omega
        clear h1
        go_wp2_with fail
        refine (unhide HK3).mono ?_
        rintro e w2 ⟨la, rfl, hla, hb2⟩
        have s2 := hb2.size
        rw [← unhide hD2] at hla ⊢
        go_wp2_with fail
        refine (sameNat_true g la _ _ _ _ w2 (hnt.keep hb2).sl hla.sl (by rw [hnt.isNone, hla.isNone]) (by omega)).mono ?_
        rintro e w3 ⟨rfl, hb3⟩
        go_wp2
        go_ret
        exact ⟨rfl, (hb1.trans (hb2.mono s1)).trans (hb3.mono (by omega))⟩
      · have hn1 : ((n : Int) == 1) = false := by simp; omega
        go_wp2_with fail
        refine (unhide HK3).mono ?_
        rintro e w2 ⟨la, rfl, hla, hb2⟩
        have s2 := hb2.size
        go_wp2_with fail
        refine (readSchool_any _ (n - 1) (n - 1) t w2 (((hs.sub (by omega)).keep hb1).keep hb2) ht (by omega) (Nat.le_refl _) (by omega) (by omega)).mono ?_
        rintro e w3 ⟨hb3, ⟨hall, hd', rfl, hnt3⟩ | ⟨⟨i, hi, hbad⟩, _⟩⟩
        case inr => exact absurd (unhide HD i (by omega)) hbad
        have s3 := hb3.size
        have hle1 : dlen (dec t (n - 1)) ≤ dlen D := dlen_mono (by have := unhide hD1; omega)
        have hle2 : dlen (t (n - 1) - 48) ≤ dlen D := dlen_mono (by have := unhide hD1; omega)
        generalize dec t (n - 1) = E at *
        generalize t (n - 1) - 48 = F at *
        go_wp2_with fail
        refine (whole_any 10 (by decide) w3).mono ?_
        rintro e w4 ⟨ten, rfl, hten, hb4⟩
        have s4 := hb4.size
        go_wp2_with fail
        refine (mul_any hd' ten _ _ _ _ _ _ w4 (hnt3.keep hb4).sl hten.sl (byt_dig _) (byt_dig _) (Nat.le_refl _) (Nat.le_refl _) (by omega) (by decide) (by omega) (by decide)).mono ?_
        rw [val_dig_dlen, val_dig_dlen]
        rintro e w5 ⟨pr, rfl, hpr, hb5⟩
        have s5 := hb5.size
        have hle3 : dlen (E * 10) ≤ dlen D := dlen_mono (by have := unhide hD1; omega)
        go_wp2_with fail
        refine (add_any pr la _ _ _ _ _ _ w5 hpr.sl (((hla.keep hb3).keep hb4).keep hb5).sl (byt_dig _) (byt_dig _) (Nat.le_refl _) (Nat.le_refl _) (by omega) (by omega) (by omega) (by omega)).mono ?_
        rw [val_dig_dlen, val_dig_dlen]
        rintro e w6 ⟨su, rfl, hsu, hb6⟩
        have s6 := hb6.size
        rw [show E * 10 + F = D by have := unhide hD1; omega] at hsu ⊢
        go_wp2_with fail
        refine (sameNat_true g su _ _ _ _ w6 (((((hnt.keep hb2).keep hb3).keep hb4).keep hb5).keep hb6).sl hsu.sl (by rw [hnt.isNone, hsu.isNone]) (by omega)).mono ?_
        rintro e w7 ⟨rfl, hb7⟩
        go_wp2
        go_ret
        exact ⟨rfl, (((((hb1.trans (hb2.mono s1)).trans (hb3.mono (by omega))).trans (hb4.mono (by omega))).trans (hb5.mono (by omega))).trans (hb6.mono (by omega))).trans (hb7.mono (by omega))⟩

theorem rsr_any (a : Option Addr) (len cap : Nat) (t : Nat → Nat) (w : World) (hs : Sl w a len t) (ht : Byt t) (hl : len ≤ cap) (hc : cap ≤ 9223372036854775807) :
    Calls Taig.prog 4 #[.slice a len cap] w fun e w' => e = .returned (.bool true) ∧ Below w.heap.size w w' := by
  have k := digits_any a len cap 1300 w hl hc (by decide)
  have hm1 := Nat.min_le_left len 1300
  have hm2 := Nat.min_le_right len 1300
  have hs2 := hs.sub hm1
  have hnc := dcap_ge (n := 1300) hl
  have hcc := Nat.le_trans (dcap_le (n := 1300) hl) hc
  generalize min len 1300 = n at *
  generalize dcap len cap 1300 = c at *
  rcases Nat.eq_zero_or_pos n with h0 | h0
  · subst h0
    exact rsr_none a len cap w c k
  · have k2 := readSchool_any a n c t w hs2 ht h0 hnc hcc (by omega)
    by_cases hd : ∀ i, i < n → Dgt (t i)
    · refine rsr_good a len cap n c t w hs2 ht hm2 h0 hd hnc hcc (dec t n) rfl k (k2.mono ?_) ?_
      · rintro e w' ⟨hb, ⟨_, g, rfl, hnt⟩ | ⟨⟨i, hi, hbad⟩, _⟩⟩
        · exact ⟨g, rfl, hnt, hb⟩
        · exact absurd (hd i hi) hbad
      · have h1 := dec_lt n (fun i hi => (hd i hi).2)
        have h2 := ten_pow_le n
        have h3 := (dlen_le_iff (dec t n) (n / 2 + 1)).2 (by omega)
        omega
    · have hex : ∃ i, i < n ∧ ¬ Dgt (t i) := Classical.byContradiction fun h => hd fun i hi => Classical.byContradiction fun hb => h ⟨i, hi, hb⟩
      obtain ⟨i0, hi0, hbad⟩ := hex
      refine rsr_bad a len cap n c t w hs2 ht hm2 i0 hi0 hbad k (k2.mono ?_)
      rintro e w' ⟨hb, ⟨hall, _⟩ | ⟨_, rfl⟩⟩
      · exact absurd (hall i0 hi0) hbad
      · exact ⟨rfl, hb⟩
end Go.Proofs.Ygctai
