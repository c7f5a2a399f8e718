/-
  newton.reciprocal.
-/
import Derived.Test.YgctaiNewtB
namespace Go.Proofs.Ygctai
open Go.RowKit
set_option linter.unusedVariables false

/-- x is below 256^(dlen D + h - 1) over D. -/
def Rec (D h X : Nat) : Prop := D * X < 256 ^ (dlen D + h - 1)
theorem lt_of_mul_pow {a c e k : Nat} (h : a * 256 ^ k < 256 ^ e) (he : e = c + k) : a < 256 ^ c := by
  rw [he, Nat.pow_add] at h
  exact Nat.lt_of_mul_lt_mul_right h
theorem rec_start {D X : Nat} (hD : 0 < D) (hX : X = 72057594037927936 / (tp D 4 + 1)) : Rec D 4 X := by
  have h1 : D * 256 ^ 4 < (tp D 4 + 1) * 256 ^ dlen D := by
    rw [← Nat.div_lt_iff_lt_mul (pow256_pos _)]; exact Nat.lt_succ_self _
  have h2 : X * (tp D 4 + 1) ≤ 256 ^ 7 := by rw [hX]; exact Nat.div_mul_le_self _ _
  unfold Rec
  rcases Nat.eq_zero_or_pos X with h0 | h0
  · rw [h0, Nat.mul_zero]; exact pow256_pos _
  · refine lt_of_mul_pow (k := 4) (e := 7 + dlen D) ?_ (by have := dlen_pos hD; omega)
    have h3 := Nat.mul_lt_mul_of_pos_right h1 h0
    have h4 := Nat.mul_le_mul_right (256 ^ dlen D) h2
    rw [Nat.pow_add]
    calc D * X * 256 ^ 4 = D * 256 ^ 4 * X := by rw [Nat.mul_right_comm]
      _ < (tp D 4 + 1) * 256 ^ dlen D * X := h3
      _ = X * (tp D 4 + 1) * 256 ^ dlen D := by rw [Nat.mul_comm X, Nat.mul_right_comm]
      _ ≤ _ := h4
theorem rec_down {D h d X : Nat} (hX : Rec D h X) (hD : 0 < D) (hd : d ≤ h) : Rec D d (X / 256 ^ (h - d)) := by
  unfold Rec at *
  have := dlen_pos hD
  refine lt_of_mul_pow (k := h - d) (e := dlen D + h - 1) (Nat.lt_of_le_of_lt ?_ hX) (by omega)
  rw [Nat.mul_assoc]; exact Nat.mul_le_mul_left _ (Nat.div_mul_le_self _ _)
theorem rec_up {D h d X : Nat} (hX : Rec D h X) (hD : 0 < D) (hd : h ≤ d) : Rec D d (X * 256 ^ (d - h)) := by
  unfold Rec at *
  have := dlen_pos hD
  rw [← Nat.mul_assoc, show dlen D + d - 1 = (dlen D + h - 1) + (d - h) by omega, Nat.pow_add]
  exact Nat.mul_lt_mul_of_pos_right hX (pow256_pos _)
theorem rec_len {D h X : Nat} (hX : Rec D h X) (hD : 0 < D) : dlen X ≤ h := by
  unfold Rec at hX
  have h0 := dlen_pos hD
  have h1 := (lt_dlen_iff D (dlen D - 1)).1 (by omega)
  rw [dlen_le_iff]
  have h2 : X * 256 ^ (dlen D - 1) ≤ D * X := by rw [Nat.mul_comm X]; exact Nat.mul_le_mul_right _ h1
  exact lt_of_mul_pow (Nat.lt_of_le_of_lt h2 hX) (by omega)
theorem rec_lead {D p Z : Nat} (hp : p < dlen D) (h : (D / 256 ^ (dlen D - p) + 1) * Z < 256 ^ (p + p - 1)) (h0 : 0 < p) : Rec D p Z := by
  unfold Rec
  have h1 : D < (D / 256 ^ (dlen D - p) + 1) * 256 ^ (dlen D - p) := by
    rw [← Nat.div_lt_iff_lt_mul (pow256_pos _)]; exact Nat.lt_succ_self _
  have h2 := Nat.mul_le_mul_right Z (Nat.le_of_lt h1)
  have h3 := Nat.mul_lt_mul_of_pos_right h (pow256_pos (dlen D - p))
  rw [← Nat.pow_add, show p + p - 1 + (dlen D - p) = dlen D + p - 1 by omega, Nat.mul_right_comm] at h3
  omega
theorem lead_len {D p : Nat} (hp : p < dlen D) (h0 : 0 < p) : dlen (D / 256 ^ (dlen D - p) + 1) ≤ p + 1 := by
  have h1 : dlen (D / 256 ^ (dlen D - p)) ≤ p := by rw [dlen_div]; omega
  rw [dlen_le_iff] at h1 ⊢
  have := pow256_pos p
  rw [pow256_succ]; omega
theorem rec_end {D h n Z : Nat} (h1 : Rec D h Z) (hn : dlen D + h - 1 = n) : D * Z < 256 ^ n := by
  unfold Rec at h1; rwa [hn] at h1

theorem quo56 (T : Nat) : IntKind.u64.wrap ((72057594037927936 : Int).tdiv ((T : Int) + 1)) = ((72057594037927936 / (T + 1) : Nat) : Int) := by
  have h1 : 72057594037927936 / (T + 1) ≤ 72057594037927936 := Nat.div_le_self _ _
  rw [Int.tdiv_eq_ediv_of_nonneg (by omega), IntKind.wrap_u64, show ((T : Int) + 1) = ((T + 1 : Nat) : Int) by omega, show (72057594037927936 : Int) = ((72057594037927936 : Nat) : Int) from rfl, ← Int.natCast_ediv]
  exact Int.emod_eq_of_lt (Int.natCast_nonneg _) (by generalize 72057594037927936 / (T + 1) = q at *; omega)

set_option maxRecDepth 100000 in
set_option maxHeartbeats 4000000 in
/-- newton.reciprocal. -/
theorem reciprocal_any (b : Option Addr) (D n : Nat) (w : World) (hb : Nt w 0 b D) (hD : 0 < D) (hL : dlen D ≤ n) (hn : n ≤ 512) :
    Calls Taig.prog 51 #[.slice b (dlen D) (dlen D), .int .i64 n] w fun e w' => ∃ c Z, e = .returned (.slice c (dlen Z) (dlen Z)) ∧ Nt w' 0 c Z ∧ D * Z < 256 ^ n ∧ dlen Z ≤ 512 ∧ Below w.heap.size w w' := by
  obtain ⟨W, HW⟩ : ∃ W, Hid (n - dlen D + 1 = W) := ⟨_, rfl⟩
  have hW : (n : Int) - (dlen D : Int) + 1 = (W : Int) := by have := unhide HW; omega
  have hW1 : 1 ≤ W := by have := unhide HW; omega
  have hW2 : dlen D + W ≤ 513 := by have := unhide HW; omega
  have hL0 := dlen_pos hD
  have KT := hide (top_any b D 4 w hb.sl (by omega) (by omega))
  have hT := tp_lt D 4
  have hq := quo56 (tp D 4)
  have HX0 := hide (rec_start hD rfl)
  have hX1 : 72057594037927936 / (tp D 4 + 1) < 18446744073709551616 := Nat.lt_of_le_of_lt (Nat.div_le_self _ _) (by omega)
  have HD := hide hD
  generalize 72057594037927936 / (tp D 4 + 1) = X0 at *
  generalize tp D 4 = T at *
  have hT0 : ((T : Int) + 1 == 0) = false := by simp; omega
  clear hD
  go_enter Taig.func51, Taig.ntmps51
  go_wp2_with fail
  refine (unhide KT).mono ?_
  rintro e w' ⟨rfl, rfl⟩
  go_wp2_with fail
  refine (small_any X0 hX1 w).mono ?_
  rintro e w1 ⟨xa0, rfl, hx0, hb1⟩
  clear hq hT0 hX1 KT hT
  go_wp2
  go_loopg [6, 7, 8] 1020 (fun gk xv hv pv wr => ∃ (p h X : Nat) (xa : Option Addr), gk = 1024 - p ∧ 4 ≤ p ∧ p ≤ 1024 ∧ 1 ≤ h ∧ h ≤ p ∧ (h ≤ 4 ∨ h < W) ∧ pv = .int .i64 p ∧ hv = .int .i64 h ∧ xv = .slice xa (dlen X) (dlen X) ∧ Nt wr 0 xa X ∧ Hid (Rec D h X) ∧ Below w.heap.size w wr)
  case atStart => exact ⟨4, 4, X0, xa0, rfl, by omega, by omega, by omega, by omega, .inl (by omega), rfl, rfl, rfl, hx0.mono (Nat.zero_le _), HX0, hb1⟩
  case round =>
    obtain ⟨p, h, X, xa, rfl, hp4, hp5, hh1, hhp, hhW, rfl, rfl, rfl, hxa, hrec, hbel⟩ := hrel
    have lX := rec_len (unhide hrec) (unhide HD)
    have sb := hbel.size
    have hbk := hb.keep hbel
    clear hx0 HX0 hb1
    rcases Nat.lt_or_ge p W with hpW | hpW
    · have eP : ((p : Int) == (W : Int)) = false := by simp; omega
      have KU := up_any xa X (p - h) 
      rw [show ((p - h : Nat) : Int) = (p : Int) - (h : Int) by omega] at KU
      have HR := hide (rec_up (unhide hrec) (unhide HD) hhp)
      have HKU := hide KU
      clear KU
      generalize X * 256 ^ (p - h) = Y at *
      have lY := rec_len (unhide HR) (unhide HD)
      rcases Nat.lt_or_ge p (dlen D) with hpL | hpL
      · have KD := down_any _ b D (dlen D - p) wr hbk (by omega) (by omega)
        rw [show ((dlen D - p : Nat) : Int) = (dlen D : Int) - (p : Int) by omega] at KD
        have HKD := hide KD
        have lE := lead_len hpL (by omega)
        have HE : Hid (∀ Z, (D / 256 ^ (dlen D - p) + 1) * Z < 256 ^ (p + p - 1) → Rec D p Z) := fun Z hZ => rec_lead hpL hZ (by omega)
        clear KD
        generalize D / 256 ^ (dlen D - p) = E at *
        have lE0 : dlen E ≤ p + 1 := Nat.le_trans (dlen_mono (Nat.le_succ E)) lE
        go_wp2_with fail
        refine (unhide HKD).mono ?_
        rintro e w' ⟨c, rfl, hc, rfl⟩
        have KS := succ_any c (dlen E) (dlen E) _ wr hc.sl (byt_dig _) (Nat.le_refl _) (by omega) (by omega)
        rw [val_dig_dlen] at KS
        have HKS := hide KS
        clear KS
        go_wp2_with fail
        refine (unhide HKS).mono ?_
        rintro e w2 ⟨lc, rfl, hlc, hb2⟩
        have s2 := hb2.size
        go_wp2_with fail
        refine (unhide HKU w2 (hxa.keep hb2).sl (by omega) (by omega)).mono ?_
        rintro e w3 ⟨yc, rfl, hyc, hb3⟩
        have s3 := hb3.size
        have KR := rise_any lc yc (E + 1) Y (p + p - 1) w3 ((hlc.keep hb3).mono (Nat.zero_le _)) (hyc.mono (Nat.zero_le _)) (Nat.succ_pos _) (by omega) (by omega) (by omega)
        rw [show ((p + p - 1 : Nat) : Int) = (p : Int) + (p : Int) - 1 by omega] at KR
        have HKR := hide KR
        clear KR
        go_wp2_with fail
        refine (unhide HKR).mono ?_
        rintro e w4 ⟨zc, Z, rfl, hZ, hZ2, hZ3, hb4⟩
        have HZ : Hid (Rec D p Z) := by
          rcases hZ2 with rfl | h2
          · exact HR
          · exact unhide HE Z h2
        clear hZ2
        go_wp2
        go_roundg (1024 - (2 * p - 2))
        case measure => omega
        case rel => exact ⟨2 * p - 2, p, Z, zc, rfl, by omega, by omega, by omega, by omega, .inr hpW, int_eq (by omega), rfl, rfl, hZ, HZ, ((hbel.trans (hb2.mono sb)).trans (hb3.mono (by omega))).trans (hb4.mono (by omega))⟩
      · go_wp2_with fail
        refine (unhide HKU wr hxa.sl (by omega) (by omega)).mono ?_
        rintro e w3 ⟨yc, rfl, hyc, hb3⟩
        have s3 := hb3.size
        have KR := rise_any b yc D Y (dlen D + p - 1) w3 (hbk.keep hb3) (hyc.mono (Nat.zero_le _)) (unhide HD) (by omega) (by omega) (by omega)
        rw [show ((dlen D + p - 1 : Nat) : Int) = (dlen D : Int) + (p : Int) - 1 by omega] at KR
        have HKR := hide KR
        clear KR
        go_wp2_with fail
        refine (unhide HKR).mono ?_
        rintro e w4 ⟨zc, Z, rfl, hZ, hZ2, hZ3, hb4⟩
        have HZ : Hid (Rec D p Z) := by
          rcases hZ2 with rfl | h2
          · exact HR
          · exact h2
        clear hZ2
        go_wp2
        go_roundg (1024 - (2 * p - 2))
        case measure => omega
        case rel => exact ⟨2 * p - 2, p, Z, zc, rfl, by omega, by omega, by omega, by omega, .inr hpW, int_eq (by omega), rfl, rfl, hZ, HZ, (hbel.trans (hb3.mono sb)).trans (hb4.mono (by omega))⟩
    · have eW : ((W : Int) == (W : Int)) = true := by simp
      have hK : Hid (∀ (w2 : World) (Z : Nat) (xc : Option Addr), Nt w2 0 xc Z → Rec D W Z → Below wr.heap.size wr w2 → Calls Taig.prog 89 #[.slice b (dlen D) (dlen D), .slice xc (dlen Z) (dlen Z), .int .i64 ((dlen D : Int) + (W : Int) - 1)] w2 fun e w' =>
          ∃ c Z, e = .returned (.slice c (dlen Z) (dlen Z)) ∧ Nt w' 0 c Z ∧ D * Z < 256 ^ n ∧ dlen Z ≤ 512 ∧ Below w2.heap.size w2 w') := fun w2 Z xc hxc hr hb2 => by
        have lZ := rec_len hr (unhide HD)
        have K := rise_any b xc D Z (dlen D + W - 1) w2 (hbk.keep hb2) hxc (unhide HD) (by omega) (by omega) (by omega)
        rw [show ((dlen D + W - 1 : Nat) : Int) = (dlen D : Int) + (W : Int) - 1 by omega] at K
        have hnn : dlen D + W - 1 = n := by have := unhide HW; omega
        rw [hnn] at K
        refine K.mono ?_
        rintro e w' ⟨c, Y, rfl, hY, hY2, hY3, hb3⟩
        refine ⟨c, Y, rfl, hY, ?_, hY3, hb3⟩
        rcases hY2 with rfl | h2
        · exact rec_end hr hnn
        · exact h2
      rcases Nat.lt_or_ge p (dlen D) with hpL | hpL
      all_goals
        rcases Nat.lt_or_ge W h with hWh | hWh
        · have K := down_any _ xa X (h - W) wr hxa (by omega) (by omega)
          rw [show ((h - W : Nat) : Int) = (h : Int) - (W : Int) by omega] at K
          have HR := hide (rec_down (unhide hrec) (unhide HD) (Nat.le_of_lt hWh))
          have HKD := hide K
          clear K
          generalize X / 256 ^ (h - W) = Y at *
          go_wp2_with fail
          refine (unhide HKD).mono ?_
          rintro e w' ⟨c, rfl, hc, rfl⟩
          go_wp2_with fail
          refine (unhide hK wr Y c hc (unhide HR) (Below.refl _ _)).mono ?_
          rintro e w3 ⟨c3, Z, rfl, hZ, hZ2, hZ3, hb3⟩
          go_wp2
          go_ret
          exact ⟨c3, Z, rfl, hZ, hZ2, hZ3, hbel.trans (hb3.mono sb)⟩
        · have K := up_any xa X (W - h) wr hxa.sl (by omega) (by omega)
          rw [show ((W - h : Nat) : Int) = (W : Int) - (h : Int) by omega] at K
          have HR := hide (rec_up (unhide hrec) (unhide HD) hWh)
          have HKU := hide K
          clear K
          generalize X * 256 ^ (W - h) = Y at *
          go_wp2_with fail
          refine (unhide HKU).mono ?_
          rintro e w2 ⟨c, rfl, hc, hb2⟩
          have s2 := hb2.size
          go_wp2_with fail
          refine (unhide hK w2 Y c (hc.mono (Nat.zero_le _)) (unhide HR) hb2).mono ?_
          rintro e w3 ⟨c3, Z, rfl, hZ, hZ2, hZ3, hb3⟩
          go_wp2
          go_ret
          exact ⟨c3, Z, rfl, hZ, hZ2, hZ3, (hbel.trans (hb2.mono sb)).trans (hb3.mono (by omega))⟩
end Go.Proofs.Ygctai
