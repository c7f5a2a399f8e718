/-
  nlong.Div.
-/
import Derived.Test.YgctaiLE2
import Derived.Test.YgctaiLF2
namespace Go.Proofs.Ygctai
open Go.RowKit
set_option linter.unusedVariables false
attribute [local go_sem ↓] Go.wp_at_zero Go.wp_at_succ

/-! ### plain -/
theorem divl_part {A D hi lo d R T : Nat} (hd : lo + d = hi) (hD : 0 < D) (hR : R = A / 256 ^ hi % D) (hT : T = A / 256 ^ lo % 256 ^ d + 256 ^ d * R) :
    A / 256 ^ lo / D = A / 256 ^ hi / D * 256 ^ d + T / D ∧ A / 256 ^ lo % D = T % D ∧ T / D < 256 ^ d := by
  have h1 : A / 256 ^ lo / 256 ^ d = A / 256 ^ hi := by rw [Nat.div_div_eq_div_mul, ← Nat.pow_add, hd]
  have h2 := Nat.div_add_mod (A / 256 ^ lo) (256 ^ d)
  have h3 := Nat.div_add_mod (A / 256 ^ hi) D
  have h4 := Nat.mod_lt (A / 256 ^ hi) hD
  have h5 := Nat.mod_lt (A / 256 ^ lo) (pow256_pos d)
  rw [h1] at h2
  rw [← hR] at h3 h4
  generalize A / 256 ^ hi / D = Q1 at *
  have h6 : A / 256 ^ lo = T + Q1 * 256 ^ d * D := by
    rw [← h2, ← h3, hT, Nat.mul_add]
    have : 256 ^ d * (D * Q1) = Q1 * 256 ^ d * D := by ac_rfl
    omega
  refine ⟨?_, ?_, ?_⟩
  · rw [h6, Nat.add_mul_div_right _ _ hD, Nat.add_comm]
  · rw [h6, Nat.add_mul_mod_self_right]
  · rw [Nat.div_lt_iff_lt_mul hD, hT]
    have := Nat.mul_le_mul_left (256 ^ d) (show R + 1 ≤ D by omega)
    rw [Nat.mul_add, Nat.mul_one] at this
    omega

/-- The part that is divided. -/
def prt (A R lo d : Nat) : Nat → Nat := fun i => if i < d then dig A (lo + i) else dig R (i - d)
theorem prt_byt (A R lo d : Nat) : Byt (prt A R lo d) := fun i => by unfold prt; split <;> exact dig_lt _ _
theorem prt_val (A R lo d L : Nat) (hL : L = d + dlen R) : val (prt A R lo d) L = A / 256 ^ lo % 256 ^ d + 256 ^ d * R := by
  rw [hL, val_split]
  congr 1
  · rw [← val_dig]
    exact val_congr _ fun i hi => by unfold prt; rw [if_pos hi, dig_div]
  · congr 1
    have e := val_congr (f := fun i => prt A R lo d (d + i)) (g := dig R) (dlen R) fun i hi => by unfold prt; rw [if_neg (by omega), Nat.add_sub_cancel_left]
    rw [e, val_dig_dlen]
/-- The quotient's digits laid. -/
def qlay (fq : Nat → Nat) (lo hi E : Nat) : Nat → Nat := fun i => if i < lo then fq i else if i < hi then dig E (i - lo) else fq i
theorem qlay_byt {fq : Nat → Nat} (h : Byt fq) (lo hi E : Nat) : Byt (qlay fq lo hi E) := fun i => by
  unfold qlay; split
  · exact h i
  · split
    · exact dig_lt _ _
    · exact h i
theorem qlay_val {fq : Nat → Nat} {lo hi d E M : Nat} (hd : lo + d = hi) (hM : hi ≤ M) (hE : E < 256 ^ d) : val (fun i => qlay fq lo hi E (lo + i)) (M - lo) = E + 256 ^ d * val (fun i => fq (hi + i)) (M - hi) := by
  rw [show M - lo = d + (M - hi) by omega, val_split]
  congr 1
  · rw [val_congr d (g := dig E) (fun i hi' => by unfold qlay; rw [if_neg (by omega), if_pos (by omega), Nat.add_sub_cancel_left]), val_dig]
    exact Nat.mod_eq_of_lt hE
  · congr 1
    exact val_congr _ fun i hi' => by unfold qlay; rw [if_neg (by omega), if_neg (by omega), show lo + (d + i) = hi + i by omega]
theorem qlay_row {w w' : World} {b M lo hi d E : Nat} {fq : Nat → Nat} (hd : lo + d = hi) (hM : hi ≤ M) (hE : dlen E ≤ d) (hz : ∀ i, i < hi → fq i = 0) (h : Row w b 0 M (oct fq)) (h1 : Row w' b lo d (oct fun i => if i < dlen E then dig E i else fq (lo + i))) (hw : Wr b lo (lo + dlen E) w w') : Row w' b 0 M (oct (qlay fq lo hi E)) := fun i hi' => by
  rw [oct_at]
  unfold qlay
  by_cases c1 : i < lo
  · rw [if_pos c1, hw.cell _ (by omega)]; exact h i hi'
  · rw [if_neg c1]
    by_cases c2 : i < hi
    · rw [if_pos c2]
      have := h1 (i - lo) (by omega)
      rw [show lo + (i - lo) = 0 + i by omega, oct_at] at this
      rw [this]
      by_cases c3 : i - lo < dlen E
      · rw [if_pos c3]
      · rw [if_neg c3, hz _ (by omega), dig_ge (by omega)]
    · rw [if_neg c2, hw.cell _ (by omega)]; exact h i hi'

set_option maxRecDepth 100000 in
set_option maxHeartbeats 1000000 in
theorem nlDiv_bad (a b : Option Addr) (n ca m cb : Nat) (f g : Nat → Nat) (A : Nat) (w : World) (hs : Sl w a n f) (hf : Byt f) (hn : n ≤ ca) (hca : ca ≤ 1099511627776) (ht : Sl w b m g) (hg : Byt g) (hm : m ≤ cb) (hcb : cb ≤ 1099511627776) (hA : val f n = A) (hD : val g m = 0) :
    Calls Taig.prog 37 #[.slice a n ca, .slice b m cb] w fun e w' => e = .returned (.tuple #[.slice none 0 0, .slice none 0 0, .bool false]) ∧ w = w' := by
  have K1 := nlongNormal_any a n ca f w hs hf hn (by omega)
  have K2 := nlongNormal_any b m cb g w ht hg hm (by omega)
  rw [hA] at K1
  rw [hD, nz_zero, dlen_zero] at K2
  have HK1 := hide K1
  have HK2 := hide K2
  clear K1 K2 hA hD
  go_enter Taig.func37, Taig.ntmps37
  go_wp2_with fail
  refine (unhide HK1).mono ?_
  rintro e w' ⟨rfl, rfl⟩
  go_wp2_with fail
  refine (unhide HK2).mono ?_
  rintro e w' ⟨rfl, rfl⟩
  go_wp2
  go_ret3
  exact ⟨rfl, rfl⟩

set_option maxRecDepth 100000 in
set_option maxHeartbeats 1000000 in
theorem nlDiv_good (a b : Option Addr) (n ca m cb : Nat) (f g : Nat → Nat) (A D : Nat) (w : World) (hs : Sl w a n f) (hf : Byt f) (hn : n ≤ ca) (hca : ca ≤ 1099511627776) (ht : Sl w b m g) (hg : Byt g) (hm : m ≤ cb) (hcb : cb ≤ 1099511627776) (hA : val f n = A) (hDv : val g m = D)
    (na : Nt w 0 (nz A a) A) (nb : Nt w 0 (nz D b) D) (hD : 0 < D) (lA : dlen A ≤ 4300) (lD : dlen D ≤ 4300) :
    Calls Taig.prog 37 #[.slice a n ca, .slice b m cb] w fun e w' => ∃ q r, e = .returned (.tuple #[.slice q (dlen (A / D)) (dlen (A / D)), .slice r (dlen (A % D)) (dlen (A % D)), .bool true]) ∧ Nt w' w.heap.size q (A / D) ∧ Nt w' w.heap.size r (A % D) ∧ Below w.heap.size w w' := by
  have K1 := nlongNormal_any a n ca f w hs hf hn (by omega)
  have K2 := nlongNormal_any b m cb g w ht hg hm (by omega)
  rw [hA] at K1
  rw [hDv] at K2
  have HK1 := hide K1
  have HK2 := hide K2
  generalize nz A a = a1 at *
  generalize nz D b = b1 at *
  have hdl := dlen_pos hD
  have e0 : ((dlen D : Int) == 0) = false := by simp; omega
  have HD := hide hD
  clear K1 K2 hA hDv hs ht hf hg hn hm hca hcb hD
  rcases Nat.lt_or_ge (dlen A) (dlen D) with hAD | hAD
  · have hlt : A < D := by
      rcases Nat.lt_or_ge A D with h | h
      · exact h
      · have := dlen_mono h; omega
    have E1 := hide (Nat.div_eq_of_lt hlt)
    have E2 := hide (Nat.mod_eq_of_lt hlt)
    rw [unhide E1, unhide E2, dlen_zero]
    clear hlt
    have KA := add_any a1 none _ (dlen A) 0 0 _ (fun _ => 0) w na.sl (fun h => absurd h (by decide)) (byt_dig _) byt_zero (Nat.le_refl _) (Nat.le_refl _) (by omega) (by omega) (by omega) (by omega)
    rw [val_dig_dlen, val, Nat.add_zero] at KA
    have HKA := hide KA
    clear KA
    go_enter Taig.func37, Taig.ntmps37
    go_wp2_with fail
    refine (unhide HK1).mono ?_
    rintro e w' ⟨rfl, rfl⟩
    go_wp2_with fail
    refine (unhide HK2).mono ?_
    rintro e w' ⟨rfl, rfl⟩
    go_wp2_with fail
    refine (unhide HKA).mono ?_
    rintro e w2 ⟨rc, rfl, hrc, hb2⟩
    go_wp2
    go_ret3
    exact ⟨none, rc, rfl, Nt.nil _ _, hrc, hb2⟩
  · obtain ⟨M, hM⟩ : ∃ M, Hid (M = dlen A - dlen D + 1) := ⟨_, hide rfl⟩
    have hMI : (dlen A : Int) - (dlen D : Int) + 1 = (M : Int) := by have := unhide hM; omega
    have hM1 : 1 ≤ M := by have := unhide hM; omega
    have hMl : M + dlen D = dlen A + 1 := by have := unhide hM; omega
    have HML := hide hMl
    have hM4 : M ≤ 4300 := by omega
    have hMA : M ≤ dlen A := by omega
    clear hMl
    obtain ⟨s0, hs0⟩ : ∃ s0, Hid (s0 = max (dlen D) 64) := ⟨_, hide rfl⟩
    have hs01 : 64 ≤ s0 := by have := unhide hs0; omega
    have hs02 : s0 ≤ 4300 := by have := unhide hs0; omega
    obtain ⟨cnt, hcnt⟩ : ∃ cnt, Hid (cnt = (M + s0 - 1) / s0) := ⟨_, hide rfl⟩
    have hc1 : 0 < cnt := by rw [unhide hcnt]; exact Nat.div_pos (by omega) (by omega)
    have hc2 : cnt ≤ 10000 := by rw [unhide hcnt]; exact Nat.le_trans (Nat.div_le_self _ _) (by omega)
    obtain ⟨S, hS⟩ : ∃ S, Hid (S = (M + cnt - 1) / cnt) := ⟨_, hide rfl⟩
    have hS1 : 0 < S := by rw [unhide hS]; exact Nat.div_pos (by omega) hc1
    have hSM : S ≤ M := by
      rw [unhide hS, ← Nat.lt_succ_iff, Nat.div_lt_iff_lt_mul hc1]
      have := Nat.mul_le_mul_left (M + 1) hc1
      have h2 : M * cnt ≥ M * 1 := Nat.mul_le_mul_left _ hc1
      rw [Nat.succ_eq_add_one, Nat.add_mul, Nat.one_mul]; omega
    have e1 : ((M : Int) + (s0 : Int) - 1) / (s0 : Int) = (cnt : Int) := by
      rw [unhide hcnt, show (M : Int) + (s0 : Int) - 1 = ((M + s0 - 1 : Nat) : Int) by omega]; rfl
    have e2 : ((M : Int) + (cnt : Int) - 1) / (cnt : Int) = (S : Int) := by
      rw [unhide hS, show (M : Int) + (cnt : Int) - 1 = ((M + cnt - 1 : Nat) : Int) by omega]; rfl
    obtain ⟨p, hp⟩ : ∃ p, Hid (p = max 4 (S + 2)) := ⟨_, hide rfl⟩
    have KN := hide (newDivisor_any b1 D S p w nb (unhide HD) (by omega) (by omega) hp)
    have hmk := make23 M (by omega)
    go_enter Taig.func37, Taig.ntmps37
    go_wp2_with fail
    refine (unhide HK1).mono ?_
    rintro e w' ⟨rfl, rfl⟩
    go_wp2_with fail
    refine (unhide HK2).mono ?_
    rintro e w' ⟨rfl, rfl⟩
    go_upto_if 36 with fail
    go_cut [8] (fun sv wc => sv = .int .i64 s0 ∧ w = wc)
    case first =>
      by_cases h : dlen D < 64
      · go_wp2
        go_meet
        case rel => exact ⟨int_eq (by have := unhide hs0; omega), rfl⟩
      · go_wp2
        go_meet
        case rel => exact ⟨int_eq (by have := unhide hs0; omega), rfl⟩
    case rest =>
      obtain ⟨rfl, rfl⟩ := hcut
      go_wp2_with fail
      refine (unhide KN).mono ?_
      rintro e w1 ⟨x, X, rfl, nx, hRl, hb1⟩
      unfold dvs
      have HRl := hide hRl
      clear hRl KN
      have s1 := hb1.size
      have q1 : Row ((w1.alloc (.cells #[.slice b1 (dlen D) (dlen D), .slice x (dlen X) (dlen X), .int .i64 (p : Int), .int .i64 (S : Int)] 85)).alloc (made (.int .u8 0) M 5)) w1.heap.size 0 4 (dvc b1 x D X p S) := (row_new w1 _ _ 4 _ (fun i hi => by
        match i, hi with
        | 0, _ => rfl
        | 1, _ => rfl
        | 2, _ => rfl
        | 3, _ => rfl)).alloc _
      have q2 : Row ((w1.alloc (.cells #[.slice b1 (dlen D) (dlen D), .slice x (dlen X) (dlen X), .int .i64 (p : Int), .int .i64 (S : Int)] 85)).alloc (made (.int .u8 0) M 5)) (w1.heap.size + 1) 0 M (oct fun _ => 0) := by
        have := row_made (w1.alloc (.cells #[.slice b1 (dlen D) (dlen D), .slice x (dlen X) (dlen X), .int .i64 (p : Int), .int .i64 (S : Int)] 85)) (.int .u8 0) M 5
        simp only [World.size_alloc] at this
        exact this
      have q3 : Free ((w1.alloc (.cells #[.slice b1 (dlen D) (dlen D), .slice x (dlen X) (dlen X), .int .i64 (p : Int), .int .i64 (S : Int)] 85)).alloc (made (.int .u8 0) M 5)) (w1.heap.size + 1) 0 M := by
        have := free_made (w1.alloc (.cells #[.slice b1 (dlen D) (dlen D), .slice x (dlen X) (dlen X), .int .i64 (p : Int), .int .i64 (S : Int)] 85)) (.int .u8 0) M 5
        simp only [World.size_alloc] at this
        exact this
      have q4 : Below w1.heap.size w1 ((w1.alloc (.cells #[.slice b1 (dlen D) (dlen D), .slice x (dlen X) (dlen X), .int .i64 (p : Int), .int .i64 (S : Int)] 85)).alloc (made (.int .u8 0) M 5)) := ((below_alloc w1 _).alloc (by simp) _)
      have q5 : Hid (((w1.alloc (.cells #[.slice b1 (dlen D) (dlen D), .slice x (dlen X) (dlen X), .int .i64 (p : Int), .int .i64 (S : Int)] 85)).alloc (made (.int .u8 0) M 5)).heap.size = w1.heap.size + 2) := by unfold Hid; simp
      have KD : Hid (∀ w2, Below w1.heap.size w1 w2 → Calls Taig.prog 73 #[.slice a1 (dlen A) (dlen A), .int .i64 M] w2 fun e w' => ∃ c, e = .returned (.slice c (dlen (A / 256 ^ M)) (dlen (A / 256 ^ M))) ∧ Nt w2 0 c (A / 256 ^ M) ∧ w2 = w') := fun w2 h => nlDown_any 0 a1 A M w2 ((na.keep hb1).keep h) (by omega) (by omega)
      go_wp2_with fail
      generalize (w1.alloc (.cells #[.slice b1 (dlen D) (dlen D), .slice x (dlen X) (dlen X), .int .i64 (p : Int), .int .i64 (S : Int)] 85)).alloc (made (.int .u8 0) M 5) = w2 at *
      refine (unhide KD w2 q4).mono ?_
      rintro e w' ⟨rc, rfl, hrc, rfl⟩
      clear hmk KD e1 e2 hMI
      have hb2 : Below w.heap.size w w2 := hb1.trans (q4.mono s1)
      obtain ⟨vb, hvb⟩ : ∃ vb, Hid (w1.heap.size = vb) := ⟨_, hide rfl⟩
      obtain ⟨bq, hbq⟩ : ∃ bq, Hid (w1.heap.size + 1 = bq) := ⟨_, hide rfl⟩
      have hvw : w.heap.size ≤ vb := by have := unhide hvb; omega
      have hbw : w.heap.size ≤ bq := by have := unhide hbq; omega
      have hqv : bq ≠ vb := by have := unhide hbq; have := unhide hvb; omega
      have nx2 : Nt w2 0 x X := nx.keep q4
      have nxq : ∀ b9 o9, x = some ⟨b9, o9, none⟩ → b9 ≠ bq := fun b9 o9 e => by
        have h1 := nx.lt e
        have := unhide hbq; omega
      rw [unhide hbq] at q2 q3 ⊢
      rw [unhide hvb] at q1 ⊢
      clear q4
      have hR0 : Hid (A / 256 ^ M = A / 256 ^ M % D ∧ A / 256 ^ M / D = 0) := by
        have : A / 256 ^ M < D := by
          rcases Nat.lt_or_ge (A / 256 ^ M) D with h | h
          · exact h
          · have h1 := dlen_mono h
            rw [dlen_div] at h1
            have := unhide HML; omega
        exact ⟨(Nat.mod_eq_of_lt this).symm, Nat.div_eq_of_lt this⟩
      obtain ⟨R0, hR00⟩ : ∃ R0, Hid (A / 256 ^ M = R0) := ⟨_, rfl⟩
      rw [unhide hR00] at hrc ⊢
      go_wp2
      go_loopg [5, 11] M (fun gk rv hv wr => ∃ (hi R : Nat) (rc : Option Addr) (fq : Nat → Nat), hi = gk ∧ hi ≤ M ∧ rv = .slice rc (dlen R) (dlen R) ∧ hv = .int .i64 hi ∧ Nt wr 0 rc R ∧ Hid (R = A / 256 ^ hi % D) ∧ Hid (hi < M → Nt wr w.heap.size rc R) ∧ Byt fq ∧ Hid (∀ i, i < hi → fq i = 0) ∧ Hid (val (fun i => fq (hi + i)) (M - hi) = A / 256 ^ hi / D) ∧ Row wr bq 0 M (oct fq) ∧ Free wr bq 0 M ∧ Row wr vb 0 4 (dvc b1 x D X p S) ∧ Nt wr 0 x X ∧ Below w.heap.size w wr)
      case atStart => exact ⟨M, R0, rc, fun _ => 0, rfl, Nat.le_refl _, rfl, rfl, hrc, by unfold Hid; rw [← unhide hR00]; exact (unhide hR0).1, fun h => absurd h (by omega), byt_zero, fun _ _ => rfl, by unfold Hid; rw [Nat.sub_self, (unhide hR0).2]; rfl, q2, q3, q1, nx2, hb2⟩
      case round =>
        clear q1 q2 q3 nx2 hrc hb2 nx
        obtain ⟨hi, R, rc, fq, rfl, hhi, rfl, rfl, hrc, hR, hfr, hfq, hz, hval, q2, q3, q1, nx, hb2⟩ := hrel
        by_cases hh0 : 0 < hi
        · obtain ⟨q0, hq0⟩ : ∃ q0, Hid (q0 = (hi - 1) / S) := ⟨_, hide rfl⟩
          obtain ⟨lo, hlo⟩ : ∃ lo, Hid (lo = q0 * S) := ⟨_, hide rfl⟩
          have e3 : ((hi : Int) - 1) / (S : Int) = (q0 : Int) := by
            rw [unhide hq0, show (hi : Int) - 1 = ((hi - 1 : Nat) : Int) by omega]; rfl
          have hlh : lo < hi := by
            rw [unhide hlo, unhide hq0]
            have := Nat.div_mul_le_self (hi - 1) S
            omega
          have e4 : IntKind.i64.wrap ((q0 : Int) * (S : Int)) = (lo : Int) := by
            have : (q0 : Int) * (S : Int) = (lo : Int) := by rw [unhide hlo]; simp
            rw [this, IntKind.wrap_i64]; omega
          obtain ⟨d, hd⟩ : ∃ d, Hid (hi - lo = d) := ⟨_, rfl⟩
          have e5 : (hi : Int) - (lo : Int) = (d : Int) := by have := unhide hd; omega
          have e6 : hi - lo = d := unhide hd
          have hd2 : lo + d = hi := by have := unhide hd; omega
          have HD2 := hide hd2
          have hRD : R < D := by rw [unhide hR]; exact Nat.mod_lt _ (unhide HD)
          have lR : dlen R ≤ dlen D := dlen_mono (Nat.le_of_lt hRD)
          have hdM : d ≤ M := by omega
          have hmk2 : ∀ w, (Instr.makeSlice 23 (.int .i64 ((d : Int) + (dlen R : Int))) (.int .i64 ((d : Int) + (dlen R : Int)))).run Taig.prog w = .ok (.slice (some ⟨w.heap.size, 0, none⟩) (d + dlen R) (d + dlen R)) (w.alloc (made (.int .u8 0) (d + dlen R) 5)) := fun w => make23 (d + dlen R) (by omega) w
          clear hd2
          obtain ⟨ba, oa, rfl, _, ra, fa⟩ := na.2 (by
            rcases Nat.eq_zero_or_pos A with e | e
            · rw [e, dlen_zero] at hMA; omega
            · exact e)
          have ra2 := ra.below hb2 (ra.block_lt (by omega))
          obtain ⟨L, hL⟩ : ∃ L, Hid (L = d + dlen R) := ⟨_, hide rfl⟩
          rw [← unhide hL] at hmk2
          have hL1 : L ≤ 8192 := by have := unhide hL; have := unhide HML; omega
          have hdL : d ≤ L := by have := unhide hL; omega
          have pr0 := row_made wr (.int .u8 0) L 5
          have pf0 := free_made wr (.int .u8 0) L 5
          have pb0 := below_alloc wr (made (.int .u8 0) L 5)
          have psz : (wr.alloc (made (.int .u8 0) L 5)).heap.size = wr.heap.size + 1 := by simp
          have PSZ := hide psz
          clear psz
          have hRLL : Hid (L - d = dlen R) := by unfold Hid; have := unhide hL; omega
          obtain ⟨w3, run3, wr3, row3⟩ := copy_oct 23 23 3 Taig.underlying23 (wr.alloc (made (.int .u8 0) L 5)) wr.heap.size 0 L L (some ⟨ba, oa + lo, none⟩) d (dlen A - lo) (fun i => dig A (lo + i)) (fun _ => 0) pr0 pf0 (fun _ => ⟨_, _, rfl, (ra2.keep pb0).shift (by have := unhide HD2; omega)⟩)
          rw [Nat.min_eq_left hdL] at run3 wr3 row3
          have hprep : ∃ w4 ad, (Builtin.copy_ #[23, 23] 3 #[.slice (some ⟨wr.heap.size, ad, none⟩) (L - d) (L - d), .slice rc (dlen R) (dlen R)]).run Taig.prog w3 = .ok (.int .i64 (dlen R : Nat)) w4 ∧ Hid ((d = L ∧ ad = 0) ∨ (d < L ∧ ad = d)) ∧ Row w4 wr.heap.size 0 L (oct (prt A R lo d)) ∧ Free w4 wr.heap.size 0 L ∧ Below wr.heap.size wr w4 := by
            have f3 := pf0.wr wr3 (by rw [unhide PSZ]; omega)
            have b3 : Below wr.heap.size wr w3 := wr3.below pb0 (Nat.le_refl _) (by rw [unhide PSZ]; omega)
            have srcR : Sl w3 rc (dlen R) (dig R) := (hrc.keep b3).sl
            rcases Nat.eq_or_lt_of_le hdL with e | e
            · obtain ⟨w4, run4, wr4, row4⟩ := copy_oct 23 23 3 Taig.underlying23 w3 wr.heap.size 0 (L - d) (L - d) rc (dlen R) (dlen R) (dig R) (fun i => dig A (lo + i)) (row3.sub (by omega) |>.congr fun i hi => absurd hi (by omega)) (f3.sub (by omega)) srcR
              have eR : dlen R = 0 := by have := unhide hL; omega
              rw [show min (dlen R) (L - d) = 0 by omega] at run4 wr4
              refine ⟨w4, 0, by rw [eR] at run4 ⊢; exact run4, .inl ⟨e, rfl⟩, ?_, f3.wr wr4 ?_, wr4.below b3 (Nat.le_refl _) b3.size⟩
              · have r5 : Row w4 wr.heap.size 0 L (oct fun i => if i < d then dig A (lo + i) else 0) := fun i hi => by
                  rw [wr4.cell _ (by omega)]; exact row3 i hi
                exact r5.congr fun i hi => by rw [oct_at, oct_at]; unfold prt; rw [if_pos (by omega), if_pos (by omega)]
              · have := row3.block_lt (by omega); exact this
            · have r3s := row3.shift (k := d) (m := L - d) (by omega)
              rw [Nat.zero_add] at r3s
              have f3s := f3.shift (k := d) (m := L - d) (by omega)
              rw [Nat.zero_add] at f3s
              obtain ⟨w4, run4, wr4, row4⟩ := copy_oct 23 23 3 Taig.underlying23 w3 wr.heap.size d (L - d) (L - d) rc (dlen R) (dlen R) (dig R) (fun i => if d + i < d then dig A (lo + (d + i)) else 0) r3s f3s srcR
              have eR : L - d = dlen R := unhide hRLL
              rw [show min (dlen R) (L - d) = dlen R by omega] at run4 wr4 row4
              refine ⟨w4, d, run4, .inr ⟨e, rfl⟩, ?_, f3.wr wr4 (row3.block_lt (by omega)), wr4.below b3 (Nat.le_refl _) b3.size⟩
              intro i hi
              rw [oct_at]
              unfold prt
              by_cases c : i < d
              · rw [if_pos c, wr4.cell _ (by omega)]
                have := row3 i (by omega)
                rw [oct_at, if_pos c] at this
                exact this
              · rw [if_neg c]
                have := row4 (i - d) (by omega)
                rw [show d + (i - d) = 0 + i by omega, oct_at, if_pos (by omega)] at this
                exact this
          obtain ⟨w4, ad, run4, had, rowP, freP, belP⟩ := hprep
          have hT : Hid (val (prt A R lo d) L = A / 256 ^ lo % 256 ^ d + 256 ^ d * R) := prt_val A R lo d L (unhide hL)
          obtain ⟨T, hTT⟩ : ∃ T, Hid (A / 256 ^ lo % 256 ^ d + 256 ^ d * R = T) := ⟨_, rfl⟩
          rw [unhide hTT] at hT
          obtain ⟨p1, p2, p3⟩ := divl_part (unhide HD2) (unhide HD) (unhide hR) (unhide hTT).symm
          have KN := nlongNormal_any (some ⟨wr.heap.size, 0, none⟩) L L (prt A R lo d) w4 (fun _ => ⟨_, _, rfl, rowP⟩) (prt_byt _ _ _ _) (Nat.le_refl _) (by omega)
          have ntT := nt_of_row (prt_byt A R lo d) (Nat.zero_le _) rowP freP
          rw [unhide hT] at KN ntT
          have lT : dlen T ≤ L := by rw [dlen_le_iff, ← unhide hT]; exact val_lt _ (prt_byt _ _ _ _).lt
          have HKN := hide KN
          clear KN
          generalize nz T (some ⟨wr.heap.size, 0, none⟩) = tc at *
          have b4 : Below w.heap.size w w4 := hb2.trans (belP.mono hb2.size)
          have KV := hide (dvDivide_any vb tc b1 x T D X p S w4 (q1.keep belP) ntT (nb.keep b4) (nx.keep belP) (unhide HD) (by have := unhide hp; omega) (by have := unhide hp; omega) (unhide HRl) (by omega) (by omega))
          have P1 := hide p1
          have P2 := hide p2
          have P3 := hide p3
          clear p1 p2 p3
          have q1' := q1.keep belP
          have q2' := q2.keep belP
          have q3' := q3.below belP (q2.block_lt (by omega))
          have nx' := nx.keep belP
          have sP := belP.size
          have s2 := hb2.size
          clear rowP freP pr0 pf0 pb0 wr3 row3 hT hTT PSZ
          have hdM2 : dlen (T / D) ≤ d := by rw [dlen_le_iff]; exact unhide P3
          rcases unhide had with ⟨h1, h2⟩ | ⟨h1, h2⟩
          · subst h2
            subst h1
            rw [Nat.sub_self] at run4
            go_wp2_with fail
            refine (unhide HKN).mono ?_
            rintro e w' ⟨rfl, rfl⟩
            clear run4 run3 hmk2 HKN
            go_wp2_with fail
            refine (unhide KV).mono ?_
            rintro e w5 ⟨dg, rs, rfl, nd, nr, hb5⟩
            have s5 := hb5.size
            have q2s := (q2'.keep hb5).shift (k := lo) (m := d) (by have := unhide HD2; omega)
            have q3s := (q3'.below hb5 (q2'.block_lt (by omega))).shift (k := lo) (m := d) (by have := unhide HD2; omega)
            rw [Nat.zero_add] at q2s q3s
            obtain ⟨w6, run6, wr6, row6⟩ := copy_oct 23 23 3 Taig.underlying23 w5 bq lo d (M - lo) dg (dlen (T / D)) (dlen (T / D)) (dig (T / D)) (fun i => fq (lo + i)) q2s q3s nd.sl
            rw [Nat.min_eq_left hdM2] at run6 wr6 row6
            have rowQ := qlay_row (unhide HD2) hhi hdM2 (unhide hz) (q2'.keep hb5) row6 wr6
            have b5 : Below w.heap.size w w5 := b4.trans (hb5.mono (by omega))
            have hfresh : Nt w6 w.heap.size rs (T % D) := by
              refine ⟨nr.1, fun h0 => ?_⟩
              obtain ⟨b9, o9, e9, h9, r9, f9⟩ := nr.2 h0
              have hne : b9 ≠ bq := by have := q2'.block_lt (by omega); omega
              exact ⟨b9, o9, e9, by omega, r9.wr wr6 (.inl hne), f9.wr wr6 (r9.block_lt (dlen_pos h0))⟩
            have q1n : Row w6 vb 0 4 (dvc b1 x D X p S) := (q1'.keep hb5).wr wr6 (.inl (Ne.symm hqv))
            have nxn : Nt w6 0 x X := by
              refine ⟨nx'.1, fun h0 => ?_⟩
              obtain ⟨b9, o9, e9, h9, r9, f9⟩ := (nx'.keep hb5).2 h0
              have hne : b9 ≠ bq := nxq b9 o9 e9
              exact ⟨b9, o9, e9, h9, r9.wr wr6 (.inl hne), f9.wr wr6 (r9.block_lt (dlen_pos h0))⟩
            have bQ : Below w.heap.size w w6 := wr6.below b5 hbw (by have := b5.size; omega)
            have HR2 : Hid (T % D = A / 256 ^ lo % D) := by unfold Hid; exact (unhide P2).symm
            have HV2 : Hid (val (fun i => qlay fq lo hi (T / D) (lo + i)) (M - lo) = A / 256 ^ lo / D) := by
              unfold Hid
              rw [qlay_val (unhide HD2) hhi (unhide P3), unhide hval, unhide P1, Nat.mul_comm, Nat.add_comm]
            have HZ2 : Hid (∀ i, i < lo → qlay fq lo hi (T / D) i = 0) := fun i hi' => by unfold qlay; rw [if_pos hi']; exact unhide hz i (by omega)
            have freQ : Free w6 bq 0 M := (q3'.below hb5 (q2'.block_lt (by omega))).wr wr6 ((q2'.keep hb5).block_lt (by omega))
            clear q2s q3s row6 wr6 q1' q2' q3' nx'
            generalize T % D = TR at *
            generalize T / D = TQ at *
            go_wp2
            go_roundg lo
            case measure => omega
            case rel => exact ⟨lo, TR, rs, qlay fq lo hi TQ, rfl, by omega, rfl, rfl, hfresh.mono (Nat.zero_le _), HR2, fun _ => hfresh, qlay_byt hfq _ _ _, HZ2, HV2, rowQ, freQ, q1n, nxn, bQ⟩
          · have h3 := h2.symm
            subst h3
            clear h2
            go_wp2_with fail
            refine (unhide HKN).mono ?_
            rintro e w' ⟨rfl, rfl⟩
            clear run4 run3 hmk2 HKN
            go_wp2_with fail
            refine (unhide KV).mono ?_
            rintro e w5 ⟨dg, rs, rfl, nd, nr, hb5⟩
            have s5 := hb5.size
            have q2s := (q2'.keep hb5).shift (k := lo) (m := d) (by have := unhide HD2; omega)
            have q3s := (q3'.below hb5 (q2'.block_lt (by omega))).shift (k := lo) (m := d) (by have := unhide HD2; omega)
            rw [Nat.zero_add] at q2s q3s
            obtain ⟨w6, run6, wr6, row6⟩ := copy_oct 23 23 3 Taig.underlying23 w5 bq lo d (M - lo) dg (dlen (T / D)) (dlen (T / D)) (dig (T / D)) (fun i => fq (lo + i)) q2s q3s nd.sl
            rw [Nat.min_eq_left hdM2] at run6 wr6 row6
            have rowQ := qlay_row (unhide HD2) hhi hdM2 (unhide hz) (q2'.keep hb5) row6 wr6
            have b5 : Below w.heap.size w w5 := b4.trans (hb5.mono (by omega))
            have hfresh : Nt w6 w.heap.size rs (T % D) := by
              refine ⟨nr.1, fun h0 => ?_⟩
              obtain ⟨b9, o9, e9, h9, r9, f9⟩ := nr.2 h0
              have hne : b9 ≠ bq := by have := q2'.block_lt (by omega); omega
              exact ⟨b9, o9, e9, by omega, r9.wr wr6 (.inl hne), f9.wr wr6 (r9.block_lt (dlen_pos h0))⟩
            have q1n : Row w6 vb 0 4 (dvc b1 x D X p S) := (q1'.keep hb5).wr wr6 (.inl (Ne.symm hqv))
            have nxn : Nt w6 0 x X := by
              refine ⟨nx'.1, fun h0 => ?_⟩
              obtain ⟨b9, o9, e9, h9, r9, f9⟩ := (nx'.keep hb5).2 h0
              have hne : b9 ≠ bq := nxq b9 o9 e9
              exact ⟨b9, o9, e9, h9, r9.wr wr6 (.inl hne), f9.wr wr6 (r9.block_lt (dlen_pos h0))⟩
            have bQ : Below w.heap.size w w6 := wr6.below b5 hbw (by have := b5.size; omega)
            have HR2 : Hid (T % D = A / 256 ^ lo % D) := by unfold Hid; exact (unhide P2).symm
            have HV2 : Hid (val (fun i => qlay fq lo hi (T / D) (lo + i)) (M - lo) = A / 256 ^ lo / D) := by
              unfold Hid
              rw [qlay_val (unhide HD2) hhi (unhide P3), unhide hval, unhide P1, Nat.mul_comm, Nat.add_comm]
            have HZ2 : Hid (∀ i, i < lo → qlay fq lo hi (T / D) i = 0) := fun i hi' => by unfold qlay; rw [if_pos hi']; exact unhide hz i (by omega)
            have freQ : Free w6 bq 0 M := (q3'.below hb5 (q2'.block_lt (by omega))).wr wr6 ((q2'.keep hb5).block_lt (by omega))
            clear q2s q3s row6 wr6 q1' q2' q3' nx'
            generalize T % D = TR at *
            generalize T / D = TQ at *
            go_wp2
            go_roundg lo
            case measure => omega
            case rel => exact ⟨lo, TR, rs, qlay fq lo hi TQ, rfl, by omega, rfl, rfl, hfresh.mono (Nat.zero_le _), HR2, fun _ => hfresh, qlay_byt hfq _ _ _, HZ2, HV2, rowQ, freQ, q1n, nxn, bQ⟩
        · obtain rfl : hi = 0 := by omega
          have ntr := unhide hfr (by omega)
          have EQ : Hid (val fq M = A / D) := by
            have := unhide hval
            rw [Nat.sub_zero, Nat.pow_zero, Nat.div_one] at this
            rw [← this]
            exact val_congr _ fun i _ => by rw [Nat.zero_add]
          have ER : Hid (R = A % D) := by have := unhide hR; rwa [Nat.pow_zero, Nat.div_one] at this
          have KN := nlongNormal_any (some ⟨bq, 0, none⟩) M M fq wr (fun _ => ⟨_, _, rfl, q2⟩) hfq (Nat.le_refl _) (by omega)
          have ntQ := nt_of_row hfq hbw q2 q3
          rw [unhide EQ] at KN ntQ
          have HKN := hide KN
          clear KN
          go_wp2_with fail
          refine (unhide HKN).mono ?_
          rintro e w' ⟨rfl, rfl⟩
          go_wp2
          go_ret3
          rw [← unhide ER]
          exact ⟨_, rc, rfl, ntQ, ntr, hb2⟩
end Go.Proofs.Ygctai
