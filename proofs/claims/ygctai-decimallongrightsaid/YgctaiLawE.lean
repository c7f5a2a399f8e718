/-
  law.sameDigits, law.DecimalRight.
-/
import Derived.Test.YgctaiDecN
import Derived.Test.YgctaiLawD
namespace Go.Proofs.Ygctai
open Go.RowKit
set_option linter.unusedVariables false

/-! ### one number has one text -/
theorem dec_inj {t u : Nat → Nat} : ∀ (n : Nat), (∀ i, i < n → Dgt (t i)) → (∀ i, i < n → Dgt (u i)) → dec t n = dec u n → ∀ i, i < n → t i = u i
  | 0, _, _, _ => fun i hi => absurd hi (by omega)
  | n + 1, h1, h2, h3 => by
    rw [dec, dec] at h3
    obtain ⟨a1, a2⟩ := h1 n (by omega)
    obtain ⟨b1, b2⟩ := h2 n (by omega)
    have ih := dec_inj n (fun i hi => h1 i (by omega)) (fun i hi => h2 i (by omega)) (by omega)
    intro i hi
    by_cases e : i = n
    · subst e; omega
    · exact ih i (by omega)
theorem dec_len {t u : Nat → Nat} {m k : Nat} (h1 : ∀ i, i < m → Dgt (t i)) (h2 : ∀ i, i < k → Dgt (u i)) (hm : 0 < m) (hu : k = 1 ∨ u 0 ≠ 48) (hk : 0 < k) (h : dec t m = dec u k) : k ≤ m := by
  rcases Nat.lt_or_ge m k with hlt | hge
  · have a1 := dec_lt m (fun i hi => (h1 i hi).2)
    have a2 := dec_ge k hk (t := u) (by have := (h2 0 hk).1; rcases hu with h | h <;> omega)
    have a3 : 10 ^ m ≤ 10 ^ (k - 1) := Nat.pow_le_pow_right (by decide) (by omega)
    omega
  · exact hge

set_option maxRecDepth 100000 in
set_option maxHeartbeats 1000000 in
/-- law.sameDigits of the same. -/
theorem sameDigits_true (b off b2 o2 n ca cb : Nat) (f g : Nat → Nat) (w : World) (r1 : Row w b off n (oct f)) (r2 : Row w b2 o2 n (oct g)) (he : ∀ i, i < n → f i = g i) (hg : Byt g) (hn : n ≤ 1099511627776) :
    Calls Taig.prog 30 #[.slice (some ⟨b, off, none⟩) n ca, .slice (some ⟨b2, o2, none⟩) n cb] w fun e w' => e = .returned (.bool true) ∧ Below w.heap.size w w' := by
  have HE := hide he
  clear he
  go_enter Taig.func30, Taig.ntmps30
  go_wp2
  go_loopg [5] n (fun gk iv wr => ∃ (i : Nat), gk = n - i ∧ i ≤ n ∧ iv = .int .i64 i ∧ Below w.heap.size w wr)
  case atStart => exact ⟨0, rfl, by omega, rfl, Below.refl _ _⟩
  case round =>
    obtain ⟨i, rfl, hi, rfl, hbel⟩ := hrel
    by_cases hlt : i < n
    · have c1 := (r1.keep hbel).cell hlt
      have c2 := (r2.keep hbel).cell hlt
      have d2 := hg i
      simp only [oct_at] at c1 c2
      rw [unhide HE i hlt] at c1
      go_wp2
      go_quiet (fail)
      go_wp2
      go_roundg (n - (i + 1))
      case measure => omega
      case rel => exact ⟨i + 1, rfl, by omega, by go_num, belowN hbel _⟩
    · go_wp2
      go_ret
      exact ⟨rfl, hbel⟩

set_option maxRecDepth 100000 in
set_option maxHeartbeats 1000000 in
/-- newton.Decimal where it refuses. -/
theorem newtonDecimal_bad (a : Option Addr) (A : Nat) (w : World) (ha : Nt w 0 a A) (h : 512 < dlen A) (l1 : dlen A ≤ 1048576) :
    Calls Taig.prog 28 #[.slice a (dlen A) (dlen A)] w fun e w' => e = .returned (.tuple #[.slice none 0 0, .bool false]) ∧ w = w' := by
  have k1 := hide (newtonNormal_nt 0 a A w ha (by omega))
  go_enter Taig.func28, Taig.ntmps28
  go_wp2_with fail
  refine (unhide k1).mono ?_
  rintro e w' ⟨rfl, rfl⟩
  go_wp2
  go_ret2
  exact ⟨rfl, rfl⟩

set_option maxRecDepth 100000 in
set_option maxHeartbeats 2000000 in
theorem decR_any (a : Option Addr) (la ca : Nat) (f : Nat → Nat) (w : World) (hs : Sl w a la f) (hf : Byt f) (hla : la ≤ ca) (hca : ca ≤ 9223372036854775807) :
    Calls Taig.prog 7 #[.slice a la ca] w fun e w' => e = .returned (.bool true) ∧ Below w.heap.size w w' := by
  have K1 := hide (take_any a la ca f w hs hf hla hca)
  have lA := dlen_take hf la
  clear hs hf
  generalize val f (min la 1024) = A at *
  have hnil := eqNil22 none 0 0
  go_enter Taig.func7, Taig.ntmps7
  go_wp2_with fail
  refine (unhide K1).mono ?_
  rintro e w1 ⟨x, rfl, hx, hb1⟩
  have s1 := hb1.size
  have hx1 := hx.mono (Nat.zero_le _)
  by_cases hbad : 512 < dlen A
  · go_wp2_with fail
    refine (newtonDecimal_bad x A w1 hx1 hbad (by omega)).mono ?_
    rintro e w' ⟨rfl, rfl⟩
    go_wp2
    go_ret
    exact ⟨rfl, hb1⟩
  · have KD := hide (newtonDecimal_good x A w1 hx1 (by omega))
    go_wp2_with fail
    refine (unhide KD).mono ?_
    rintro e w2 ⟨T, m, c, t, rfl, ht, hbt, hdg, hm0, hld, hdec, hmc, hc2, hb2⟩
    have s2 := hb2.size
    have KR := newtonRead_good (some ⟨T, 0, none⟩) m c t w2 (fun _ => ⟨_, _, rfl, ht⟩) hbt hm0 hdg (by omega) hmc (by omega)
    rw [hdec] at KR
    have HKR := hide KR
    have HD := hide hdec
    have HG := hide hdg
    have HL := hide hld
    clear KR hdec hdg hld
    go_wp2_with fail
    refine (unhide HKR).mono ?_
    rintro e w3 ⟨hb3, ⟨_, back, rfl, hback⟩ | ⟨hD2, _⟩⟩
    case inr => omega
    have s3 := hb3.size
    have KS := decSchool_any x (dlen A) (dlen A) (dig A) w3 ((hx1.keep hb2).keep hb3).sl (byt_dig _) (Nat.le_refl _) (by omega) (by omega)
    rw [val_dig_dlen] at KS
    have HKS := hide KS
    clear KS
    go_wp2_with fail
    refine (unhide HKS).mono ?_
    rintro e w4 ⟨T2, k, c2, u, rfl, hb4, hT2, hu, hfu, hbu, hdu, hk0, hlu, hdecu, hkc, hc3⟩
    have s4 := hb4.size
    have heq : dec t m = dec u k := by rw [unhide HD, hdecu]
    have hmk : m = k := Nat.le_antisymm (dec_len hdu (unhide HG) hk0 (unhide HL) hm0 heq.symm) (dec_len (unhide HG) hdu hm0 hlu hk0 heq)
    subst hmk
    have hte := dec_inj m (unhide HG) hdu heq
    go_wp2_with fail
    refine (sameDigits_true T 0 T2 0 m c c2 t u w4 ((ht.keep hb3).keep hb4) hu hte hbu (by omega)).mono ?_
    rintro e w5 ⟨rfl, hb5⟩
    have s5 := hb5.size
    go_wp2_with fail
    refine (sameNat_true back x _ _ _ _ w5 ((hback.keep hb4).keep hb5).sl ((((hx1.keep hb2).keep hb3).keep hb4).keep hb5).sl (by rw [hback.isNone, hx1.isNone]) (by omega)).mono ?_
    rintro e w6 ⟨rfl, hb6⟩
    go_wp2
    go_ret
    exact ⟨rfl, ((((hb1.trans (hb2.mono s1)).trans (hb3.mono (by omega))).trans (hb4.mono (by omega))).trans (hb5.mono (by omega))).trans (hb6.mono (by omega))⟩
end Go.Proofs.Ygctai
