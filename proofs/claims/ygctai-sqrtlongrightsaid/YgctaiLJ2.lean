/-
  nlong.Sqrt.
-/
import Derived.Test.YgctaiLH2
import Derived.Test.YgctaiLI2
import Derived.Test.YgctaiLE2
namespace Go.Proofs.Ygctai
open Go.RowKit
set_option linter.unusedVariables false

/-- The sizes. -/
def sq2 (t : Nat) : Nat → Nat
  | 0 => t
  | i + 1 => (sq2 t i + 1) / 2
theorem sq2_le (t : Nat) : ∀ i, sq2 t i ≤ t
  | 0 => Nat.le_refl _
  | i + 1 => by have := sq2_le t i; rw [sq2]; omega
theorem sq2_pos {t : Nat} (h : 0 < t) : ∀ i, 0 < sq2 t i
  | 0 => h
  | i + 1 => by have := sq2_pos h i; rw [sq2]; omega
theorem sq2_small (t : Nat) (h : t ≤ 4096) : ∀ i, sq2 t i ≤ 4096 / 2 ^ i + 1
  | 0 => by rw [sq2, Nat.pow_zero, Nat.div_one]; omega
  | i + 1 => by
    have := sq2_small t h i
    rw [sq2, Nat.pow_succ, ← Nat.div_div_eq_div_mul]; omega
theorem sq2_13 {t : Nat} (h : t ≤ 4096) : sq2 t 12 ≤ 3 := by
  have := sq2_small t h 12
  have h1 : (2 : Nat) ^ 12 = 4096 := by decide
  rw [h1] at this; omega
/-- The root of A without its lowest 2 c digits. -/
structure Sqr (A c S R : Nat) : Prop where
  sum : S * S + R = A / 256 ^ (2 * c)
  le : R ≤ 2 * S
theorem Sqr.pos {A c S R : Nat} (h : Sqr A c S R) (hA : 0 < A / 256 ^ (2 * c)) : 0 < S := by
  rcases Nat.eq_zero_or_pos S with e | e
  · have h1 := h.sum; have h2 := h.le; rw [e] at h1 h2; omega
  · exact e

set_option maxRecDepth 100000 in
set_option maxHeartbeats 1000000 in
theorem nlSqrt_any (a : Option Addr) (n ca : Nat) (f : Nat → Nat) (A : Nat) (w : World) (hs : Sl w a n f) (hf : Byt f) (hn : n ≤ ca) (hca : ca ≤ 1099511627776) (hA : val f n = A) (na : Nt w 0 (nz A a) A) (lA : dlen A ≤ 4096) :
    Calls Taig.prog 41 #[.slice a n ca] w fun e w' => ∃ c d S R, e = .returned (.tuple #[.slice c (dlen S) (dlen S), .slice d (dlen R) (dlen R)]) ∧ S * S + R = A ∧ R ≤ 2 * S ∧ Nt w' w.heap.size c S ∧ Nt w' w.heap.size d R ∧ Below w.heap.size w w' := by
  have K1 := nlongNormal_any a n ca f w hs hf hn (by omega)
  rw [hA] at K1
  have HK1 := hide K1
  clear K1 hA hs hf hn hca
  generalize nz A a = a1 at *
  rcases Nat.eq_zero_or_pos A with h0 | h0
  · subst h0
    rw [dlen_zero] at HK1
    go_enter Taig.func41, Taig.ntmps41
    go_wp2_with fail
    refine (unhide HK1).mono ?_
    rintro e w' ⟨rfl, rfl⟩
    go_wp2
    go_ret2
    exact ⟨none, none, 0, 0, rfl, rfl, Nat.le_refl _, Nt.nil _ _, Nt.nil _ _, Below.refl _ _⟩
  · have hd := dlen_pos h0
    have e0 : ((dlen A : Int) == 0) = false := by simp; omega
    obtain ⟨t, ht⟩ : ∃ t, Hid (t = (dlen A + 1) / 2) := ⟨_, hide rfl⟩
    have ht0 : 0 < t := by have := unhide ht; omega
    have ht1 : t ≤ 2100 := by have := unhide ht; omega
    have ht2 : dlen A ≤ 2 * t := by have := unhide ht; omega
    have ht3 : 2 * t ≤ dlen A + 1 := by have := unhide ht; omega
    have htI : ((dlen A : Int) + 1) / 2 = (t : Int) := by have := unhide ht; omega
    have hpos : Hid (∀ c, c < t → 0 < A / 256 ^ (2 * c)) := fun c hc => by
      have : 0 < dlen (A / 256 ^ (2 * c)) := by rw [dlen_div]; omega
      rcases Nat.eq_zero_or_pos (A / 256 ^ (2 * c)) with e | e
      · rw [e, dlen_zero] at this; omega
      · exact e
    have H0 := hide h0
    clear h0
    have hr1 : Row (w.alloc (.cells z64i 87)) w.heap.size 0 64 (lng fun _ => 0) := row_new _ _ _ _ _ z64i_at
    have hf1 : Free (w.alloc (.cells z64i 87)) w.heap.size 0 64 := free_new _ _ _ _
    have hb1 := below_alloc w (.cells z64i 87)
    go_enter Taig.func41, Taig.ntmps41
    go_wp2_with fail
    refine (unhide HK1).mono ?_
    rintro e w' ⟨rfl, rfl⟩
    go_wp2
    change Code.wp _ _ _ _ (w.alloc (.cells z64i 87))
    generalize w.alloc (.cells z64i 87) = w2 at *
    obtain ⟨bs, hbs⟩ : ∃ bs, Hid (w.heap.size = bs) := ⟨_, hide rfl⟩
    rw [unhide hbs] at hr1 hf1 ⊢
    simp only [htI]
    clear htI
    have hb1' : Below w.heap.size w w2 := hb1
    have hbsw : w.heap.size = bs := unhide hbs
    go_loopg [6, 7] 12 (fun gk nv av wr => ∃ (n at' : Nat) (f : Nat → Nat), gk = 12 - n ∧ n ≤ 12 ∧ nv = .int .i64 n ∧ av = .int .i64 at' ∧ Hid (at' = sq2 t n) ∧ at' ≤ 2100 ∧ 0 < at' ∧ Hid (∀ i, i < n → f i = sq2 t i ∧ 3 < f i) ∧ Row wr bs 0 64 (lng f) ∧ Free wr bs 0 64 ∧ Below w.heap.size w wr)
    case atStart => exact ⟨0, t, _, rfl, by omega, rfl, rfl, rfl, ht1, ht0, fun i h => absurd h (by omega), hr1, hf1, hb1'⟩
    case round =>
      clear hr1 hf1 hb1 hb1'
      obtain ⟨n, at', f, rfl, hn, rfl, rfl, hat, ha5, ha0, hfs, hr1, hf1, hb1⟩ := hrel
      by_cases hlt : 3 < at'
      · have hn13 : n < 12 := by
          rcases Nat.lt_or_ge n 12 with h | h
          · exact h
          · obtain rfl : n = 12 := by omega
            have := sq2_13 (t := t) (by omega)
            rw [← unhide hat] at this; omega
        have c1 := hr1.cell (i := n) (by omega)
        have f1 := hf1 n (by omega)
        rw [Nat.zero_add] at c1 f1
        simp only [lng_at] at c1
        have hbB : w.heap.size ≤ bs := by omega
        clear hbsw
        go_wp2
        go_roundg (12 - (n + 1))
        case measure => omega
        case rel => exact ⟨n + 1, (at' + 1) / 2, upd f n at', rfl, by omega, by go_num, int_eq (by omega), by unfold Hid; rw [sq2, unhide hat], by omega, by omega, fun i hi => by
          by_cases e : i = n
          · subst e; rw [upd_at]; exact ⟨unhide hat, hlt⟩
          · rw [upd_ne _ _ e]; exact unhide hfs i (by omega), hr1.lput n at' (by omega) (by omega) rfl, hf1.setCell _ _, hb1.setCell hbB _⟩
      · have hH3 : at' ≤ 3 := by omega
        have hHt : at' ≤ t := by rw [unhide hat]; exact sq2_le _ _
        clear hbsw
        go_upto_if 34 with fail
        go_cut [8] (fun hv wc => hv = .int .i64 at' ∧ wr = wc)
        case first =>
          by_cases hn0 : 0 < n
          · obtain ⟨i, rfl⟩ : ∃ i, n = i + 1 := ⟨n - 1, by omega⟩
            have c1 := hr1.cell (i := i) (by omega)
            rw [Nat.zero_add, lng_at] at c1
            have hfi := (unhide hfs i (by omega)).1
            have hfl : f i ≤ 2100 := by rw [hfi]; exact Nat.le_trans (sq2_le _ _) ht1
            have hq : Hid ((f i + 1) / 2 = at') := by unfold Hid; rw [unhide hat, sq2, hfi]
            clear hfi
            generalize f i = fi at *
            have hI : ((i + 1 : Nat) : Int) - 1 = (i : Int) := by omega
            go_wp2
            go_meet
            case rel => exact ⟨int_eq (by have := unhide hq; omega), rfl⟩
          · obtain rfl : n = 0 := by omega
            have hq : Hid (t = at') := by unfold Hid; rw [unhide hat]; rfl
            go_wp2
            go_meet
            case rel => exact ⟨by rw [unhide hq], rfl⟩
        case rest =>
          obtain ⟨rfl, rfl⟩ := hcut
          obtain ⟨c, hc⟩ : ∃ c, Hid (t - at' = c) := ⟨_, rfl⟩
          have hcI : (t : Int) - (at' : Int) = (c : Int) := by have := unhide hc; omega
          have hct : c < t := by have := unhide hc; omega
          have hc2 : t = c + at' := by have := unhide hc; omega
          have HC2 := hide hc2
          obtain ⟨V, hV⟩ : ∃ V, Hid (A / 256 ^ (2 * c) = V) := ⟨_, rfl⟩
          have lV : dlen V ≤ 6 := by rw [← unhide hV, dlen_div]; omega
          clear hc2
          have hV48 : V < 281474976710656 := by
            have h1 := (dlen_le_iff V 6).1 lV
            have h2 : (256 : Nat) ^ 6 = 281474976710656 := by decide
            rwa [h2] at h1
          have KD : Hid (Calls Taig.prog 73 #[.slice a1 (dlen A) (dlen A), .int .i64 ((2 * c : Nat) : Int)] wr fun e w' => ∃ cc, e = .returned (.slice cc (dlen V) (dlen V)) ∧ Nt wr 0 cc V ∧ wr = w') := by
            have := nlDown_any 0 a1 A (2 * c) wr (na.keep hb1) (by omega) (by omega)
            rwa [unhide hV] at this
          have h2c : ((2 * c : Nat) : Int) = 2 * (c : Int) := by omega
          rw [h2c] at KD
          clear h2c
          go_wp2_with fail
          refine (unhide KD).mono ?_
          rintro e w' ⟨cc, rfl, ncc, rfl⟩
          clear KD
          have KV := hide (nlValue_any cc V wr ncc.sl (by omega))
          go_wp2_with fail
          refine (unhide KV).mono ?_
          rintro e w' ⟨rfl, rfl⟩
          clear KV
          have KR := hide (rootOf_any V wr hV48)
          go_wp2_with fail
          refine (unhide KR).mono ?_
          rintro e w' ⟨S, rfl, hS1, hS2, rfl⟩
          clear KR
          obtain ⟨z, hz⟩ : ∃ z, Hid (S * S = z) := ⟨_, rfl⟩
          rw [unhide hz] at hS1 hS2
          have hSz : S ≤ z := by
            rw [← unhide hz]
            rcases Nat.eq_zero_or_pos S with e | e
            · rw [e]; exact Nat.zero_le _
            · exact Nat.le_mul_of_pos_left _ e
          have e3 : IntKind.u64.wrap ((S : Int) * (S : Int)) = (z : Int) := by
            have : (S : Int) * (S : Int) = (z : Int) := by rw [← unhide hz]; simp
            rw [this, IntKind.wrap_u64]; omega
          have e4 : IntKind.u64.wrap ((V : Int) - (z : Int)) = ((V - z : Nat) : Int) := by rw [IntKind.wrap_u64]; omega
          have hsq0 : Hid (Sqr A (t - at') S (V - z)) := by
            rw [unhide hc]
            exact ⟨by rw [unhide hV, unhide hz]; omega, hS2⟩
          have hs2 := hb1.size
          have KS := hide (nlSmall_any S (by omega) wr)
          go_wp2_with fail
          refine (unhide KS).mono ?_
          rintro e w3 ⟨sc, rfl, nsc, b3'⟩
          have b3 := hb1.trans (b3'.mono hs2)
          have s3 := b3.size
          have KS2 := hide (nlSmall_any (V - z) (by omega) w3)
          generalize V - z = R at *
          go_wp2_with fail
          refine (unhide KS2).mono ?_
          rintro e w4 ⟨rc, rfl, nrc, b4'⟩
          have b4 := b3.trans (b4'.mono s3)
          have r4 := (hr1.keep b3').keep b4'
          clear e3 e4 hcI KS KS2 hS1 hS2 hSz
          go_wp2
          go_loopg [2, 3, 6, 8] n (fun gj sv rv nv hv wr => ∃ (j H S R : Nat) (sc rc : Option Addr), j = gj ∧ j ≤ n ∧ nv = .int .i64 ((j : Int) - 1) ∧ hv = .int .i64 H ∧ Hid (H = sq2 t j) ∧ H ≤ t ∧ 0 < H ∧ sv = .slice sc (dlen S) (dlen S) ∧ rv = .slice rc (dlen R) (dlen R) ∧ Hid (Sqr A (t - H) S R) ∧ Nt wr w.heap.size sc S ∧ Nt wr w.heap.size rc R ∧ Row wr bs 0 64 (lng f) ∧ Below w.heap.size w wr)
          case atStart => exact ⟨n, at', S, R, sc, rc, rfl, Nat.le_refl _, by go_num, rfl, hat, hHt, ha0, rfl, rfl, hsq0, (nsc.keep b4').mono hs2, nrc.mono (by omega), r4, b4⟩
          case round =>
            clear r4 b4 nrc nsc hsq0 b3 b3' b4' hr1 hb1 ncc
            obtain ⟨j, H, S, R, sc, rc, rfl, hj, rfl, rfl, hH, hHt2, hH0, rfl, rfl, hsq, nsc, nrc, r4, b4⟩ := hrel
            have s4 := b4.size
            by_cases hj0 : 0 < j
            · obtain ⟨i, rfl⟩ : ∃ i, j = i + 1 := ⟨j - 1, by omega⟩
              have hI : ((i + 1 : Nat) : Int) - 1 = (i : Int) := by omega
              rw [hI]
              clear hI
              obtain ⟨P, hP⟩ : ∃ P, Hid (f i = P) := ⟨_, rfl⟩
              have c1 := r4.cell (i := i) (by omega)
              rw [Nat.zero_add, lng_at, unhide hP] at c1
              obtain ⟨p1, p2⟩ := unhide hfs i (by omega)
              rw [unhide hP] at p1 p2
              have hPt : P ≤ t := by rw [p1]; exact sq2_le _ _
              have hHP : H = (P + 1) / 2 := by rw [unhide hH, sq2, p1]
              have HHP := hide hHP
              have hHP2 : H < P := by omega
              have P1 := hide p1
              clear p1 hHP
              obtain ⟨k, hk⟩ : ∃ k, Hid (P - H = k) := ⟨_, rfl⟩
              have hkI : (P : Int) - (H : Int) = (k : Int) := by have := unhide hk; omega
              obtain ⟨c3, hc3⟩ : ∃ c3, Hid (t - P = c3) := ⟨_, rfl⟩
              have hcI : (t : Int) - (P : Int) = (c3 : Int) := by have := unhide hc3; omega
              have hc3t : c3 < t := by have := unhide hc3; omega
              obtain ⟨A2, hA2⟩ : ∃ A2, Hid (A / 256 ^ (2 * c3) = A2) := ⟨_, rfl⟩
              have lA2 : dlen A2 = dlen A - 2 * c3 := by rw [← unhide hA2, dlen_div]
              have LA2 := hide lA2
              have lA2b : dlen A2 ≤ 4200 := by omega
              have hkA2 : 2 * k ≤ dlen A2 := by have := unhide hk; have := unhide hc3; omega
              have hk0 : 0 < k := by have := unhide hk; omega
              clear lA2
              have KD : Hid (Calls Taig.prog 73 #[.slice a1 (dlen A) (dlen A), .int .i64 ((2 * c3 : Nat) : Int)] wr fun e w' => ∃ cc, e = .returned (.slice cc (dlen A2) (dlen A2)) ∧ Nt wr 0 cc A2 ∧ wr = w') := by
                have := nlDown_any 0 a1 A (2 * c3) wr (na.keep b4) (by omega) (by omega)
                rwa [unhide hA2] at this
              have h2c : ((2 * c3 : Nat) : Int) = 2 * (c3 : Int) := by omega
              rw [h2c] at KD
              clear h2c
              have hS0 : 0 < S := (unhide hsq).pos (unhide hpos (t - H) (by omega))
              have KE : Hid (∀ cc, Nt wr 0 cc A2 → Calls Taig.prog 78 #[.slice sc (dlen S) (dlen S), .slice rc (dlen R) (dlen R), .slice cc (dlen A2) (dlen A2), .int .i64 k] wr fun e w' => ∃ c d S' R', e = .returned (.tuple #[.slice c (dlen S') (dlen S'), .slice d (dlen R') (dlen R')]) ∧ S' * S' + R' = A2 ∧ R' ≤ 2 * S' ∧ Nt w' wr.heap.size c S' ∧ Nt w' wr.heap.size d R' ∧ Below wr.heap.size wr w') := fun cc hcc => extend_any sc rc cc S R A2 k wr (nsc.mono (Nat.zero_le _)) (nrc.mono (Nat.zero_le _)) hcc hS0 (by
                rw [(unhide hsq).sum, ← unhide hA2, Nat.div_div_eq_div_mul, ← Nat.pow_add]
                congr 2
                have := unhide hk; have := unhide hc3; omega) (unhide hsq).le hk0 hkA2 lA2b
              go_wp2_with fail
              refine (unhide KD).mono ?_
              rintro e w' ⟨cc, rfl, ncc, rfl⟩
              go_wp2_with fail
              refine (unhide KE cc ncc).mono ?_
              rintro e w5 ⟨c5, d5, S5, R5, rfl, hs5, hr5, nc5, nd5, b5'⟩
              have hsq5 : Hid (Sqr A (t - P) S5 R5) := ⟨by rw [hs5, ← unhide hA2, unhide hc3], hr5⟩
              have b5 := b4.trans (b5'.mono s4)
              have r5 := r4.keep b5'
              clear hs5 hr5
              go_wp2
              go_roundg i
              case measure => omega
              case rel => exact ⟨i, P, S5, R5, c5, d5, rfl, by omega, by go_num, rfl, P1, hPt, by omega, rfl, rfl, hsq5, nc5.mono s4, nd5.mono s4, r5, b5⟩
            · obtain rfl : j = 0 := by omega
              have hHt3 : H = t := unhide hH
              have h7 := unhide hsq
              rw [hHt3, Nat.sub_self] at h7
              have H7 := hide h7
              clear h7 hHt3
              go_wp2
              go_ret2
              exact ⟨sc, rc, S, R, rfl, by have := (unhide H7).sum; rwa [Nat.mul_zero, Nat.pow_zero, Nat.div_one] at this, (unhide H7).le, nsc, nrc, b4⟩
end Go.Proofs.Ygctai
