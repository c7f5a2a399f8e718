/-
  ntt: MulMod, PowMod, InvMod, Root.
-/
import Derived.Test.YgctaiNA
namespace Go.Proofs.Ygctai
open Go.RowKit
set_option linter.unusedVariables false

set_option maxRecDepth 100000 in
/-- ntt.MulMod. -/
theorem mulMod_any (a b : Nat) (w : World) (ha : a < 4294967296) (hb : b < 4294967296) :
    Calls Taig.prog 125 #[.int .u32 a, .int .u32 b] w fun e w' => ∃ r : Nat, e = .returned (.int .u32 r) ∧ r < 998244353 ∧ Eqm r (a * b) ∧ w = w' := by
  have K1 := hide (below_any a w ha)
  have K2 := hide (below_any b w hb)
  have h1 : a % 998244353 < 998244353 := Nat.mod_lt _ (by decide)
  have h2 : b % 998244353 < 998244353 := Nat.mod_lt _ (by decide)
  have HE : Hid (Eqm (a % 998244353 * (b % 998244353) % 998244353) (a * b)) := by
    show _ % PP = _
    rw [show (998244353 : Nat) = PP from rfl, Nat.mod_mod, ← Nat.mul_mod]
  have h3 : a % 998244353 * (b % 998244353) < 996491788296388610 := by
    have := Nat.mul_le_mul (show a % 998244353 ≤ 998244352 by omega) (show b % 998244353 ≤ 998244352 by omega)
    omega
  generalize a % 998244353 = x at *
  generalize b % 998244353 = y at *
  obtain ⟨p, HP⟩ : ∃ p, Hid (x * y = p) := ⟨_, rfl⟩
  have hp : (x : Int) * (y : Int) = (p : Int) := by rw [← Int.natCast_mul, unhide HP]
  rw [unhide HP] at h3 HE
  have hq : (p : Int).tmod 998244353 = ((p % 998244353 : Nat) : Int) := by rw [Int.tmod_eq_emod_of_nonneg (by omega)]; omega
  have hl : p % 998244353 < 998244353 := Nat.mod_lt _ (by decide)
  generalize p % 998244353 = r at *
  have HL := hide hl
  have h4 : r < 4294967296 := by omega
  clear hl
  go_enter Taig.func125, Taig.ntmps125
  go_wp2_with fail
  refine (unhide K1).mono ?_
  rintro e w' ⟨rfl, rfl⟩
  go_wp2_with fail
  refine (unhide K2).mono ?_
  rintro e w' ⟨rfl, rfl⟩
  go_wp2
  go_ret
  exact ⟨r, rfl, HL, HE, rfl⟩

theorem bit32 {e : Nat} (he : e < 4294967296) : bits .and .u32 (e : Int) 1 = ((e % 2 : Nat) : Int) := by
  have := u32_and_nat e 1 he (by decide)
  rw [Nat.and_one_is_mod] at this
  rw [← this]; rfl

theorem pow_odd (r x e : Nat) (h : e % 2 = 1) : Eqm (r * x * (x * x) ^ (e / 2)) (r * x ^ e) := by
  have : x ^ e = x * (x * x) ^ (e / 2) := by
    rw [← Nat.pow_two, ← Nat.pow_mul]
    conv => lhs; rw [show e = 2 * (e / 2) + 1 by omega]
    rw [Nat.pow_succ, Nat.mul_comm]
  rw [this, Nat.mul_assoc]; exact Eqm.refl _
theorem pow_even (r x e : Nat) (h : e % 2 = 0) : Eqm (r * (x * x) ^ (e / 2)) (r * x ^ e) := by
  have : x ^ e = (x * x) ^ (e / 2) := by
    rw [← Nat.pow_two, ← Nat.pow_mul, show 2 * (e / 2) = e by omega]
  rw [this]; exact Eqm.refl _

set_option maxRecDepth 100000 in
set_option maxHeartbeats 1000000 in
/-- ntt.PowMod. -/
theorem powMod_any (a e : Nat) (w : World) (ha : a < 4294967296) (he : e < 4294967296) :
    Calls Taig.prog 159 #[.int .u32 a, .int .u32 e] w fun ev w' => ∃ r : Nat, ev = .returned (.int .u32 r) ∧ r < 998244353 ∧ Eqm r (a ^ e) ∧ w = w' := by
  have K1 := hide (below_any a w ha)
  have hx0 : a % 998244353 < 4294967296 := Nat.lt_trans (Nat.mod_lt _ (by decide)) (by decide)
  have HX0 : Hid (Eqm (1 * (a % 998244353) ^ e) (a ^ e)) := by rw [Nat.one_mul]; exact (eqm_mod a).pow e
  generalize a % 998244353 = x0 at *
  obtain ⟨T, HT⟩ : ∃ T, Hid (a ^ e = T) := ⟨_, rfl⟩
  rw [unhide HT] at HX0 ⊢
  clear HT
  go_enter Taig.func159, Taig.ntmps159
  go_wp2_with fail
  refine (unhide K1).mono ?_
  rintro ev w' ⟨rfl, rfl⟩
  go_wp2
  go_loopg [0, 1, 5] e (fun ge av ev rv wr => ∃ (e' x r : Nat), e' = ge ∧ av = .int .u32 x ∧ ev = .int .u32 e' ∧ rv = .int .u32 r ∧ x < 4294967296 ∧ e' < 4294967296 ∧ r < 998244353 ∧ Hid (Eqm (r * x ^ e') T) ∧ w = wr)
  case atStart => exact ⟨e, x0, 1, rfl, rfl, rfl, rfl, hx0, he, by decide, HX0, rfl⟩
  case round =>
    obtain ⟨e', x, r, rfl, rfl, rfl, rfl, hx, he', hr, hT, rfl⟩ := hrel
    rcases Nat.eq_zero_or_pos e' with h0 | h0
    · subst h0
      have HR : Hid (Eqm r T) := by have := unhide hT; rwa [Nat.pow_zero, Nat.mul_one] at this
      have HL := hide hr
      clear hr hT
      go_wp2
      go_ret
      exact ⟨r, rfl, HL, HR, rfl⟩
    · have hb := bit32 he'
      have KS := hide (mulMod_any x x w hx hx)
      have hr4 : r < 4294967296 := by omega
      have HR := hide hr
      clear hr
      rcases Nat.mod_two_eq_zero_or_one e' with hm | hm
      · have hm1 : ((e' % 2 : Nat) : Int) = 0 := by omega
        rw [hm1] at hb
        have HM := hide hm
        clear hm hm1
        go_wp2_with fail
        refine (unhide KS).mono ?_
        rintro ev w' ⟨s, rfl, hs, hs2, rfl⟩
        have HE : Hid (Eqm (r * s ^ (e' / 2)) T) := (((Eqm.refl r).mul (hs2.pow _)).trans (pow_even r x e' (unhide HM))).trans (unhide hT)
        have hs4 : s < 4294967296 := by omega
        clear hs
        go_wp2
        go_roundg (e' / 2)
        case measure => omega
        case rel => exact ⟨e' / 2, s, r, rfl, rfl, int_eq (by omega), rfl, hs4, by omega, HR, HE, rfl⟩
      · have hm1 : ((e' % 2 : Nat) : Int) = 1 := by omega
        rw [hm1] at hb
        have HM := hide hm
        have KR := hide (mulMod_any r x w hr4 hx)
        clear hm hm1
        go_wp2_with fail
        refine (unhide KR).mono ?_
        rintro ev w' ⟨r2, rfl, hr2, hr3, rfl⟩
        have HR2 := hide hr2
        clear hr2
        go_wp2_with fail
        refine (unhide KS).mono ?_
        rintro ev w' ⟨s, rfl, hs, hs2, rfl⟩
        have HE : Hid (Eqm (r2 * s ^ (e' / 2)) T) := ((hr3.mul (hs2.pow _)).trans (pow_odd r x e' (unhide HM))).trans (unhide hT)
        have hs4 : s < 4294967296 := by omega
        clear hs
        go_wp2
        go_roundg (e' / 2)
        case measure => omega
        case rel => exact ⟨e' / 2, s, r2, rfl, rfl, int_eq (by omega), rfl, hs4, by omega, HR2, HE, rfl⟩

set_option maxRecDepth 100000 in
/-- ntt.InvMod. -/
theorem invMod_any (a : Nat) (w : World) (ha : a < 4294967296) :
    Calls Taig.prog 146 #[.int .u32 a] w fun ev w' => ∃ r : Nat, ev = .returned (.int .u32 r) ∧ r < 998244353 ∧ (∀ e, e = 998244351 → Eqm r (a ^ e)) ∧ w = w' := by
  obtain ⟨e, he⟩ : ∃ e : Nat, e = 998244351 := ⟨_, rfl⟩
  have K := powMod_any a e w ha (by omega)
  rw [show (e : Int) = 998244351 by omega] at K
  have HK := hide K
  have HE := hide he
  clear K he
  go_enter Taig.func146, Taig.ntmps146
  go_wp2_with fail
  refine (unhide HK).mono ?_
  rintro ev w' ⟨r, rfl, hr, hr2, rfl⟩
  have HR := hide hr
  clear hr
  go_wp2
  go_ret
  exact ⟨r, rfl, HR, fun e' he' => by rw [he', ← unhide HE]; exact hr2, rfl⟩
end Go.Proofs.Ygctai
