/-
  law.ReadRight.
-/
import Derived.Test.YgctaiRead
import Derived.Test.YgctaiLawB
namespace Go.Proofs.Ygctai
open Go.RowKit
set_option linter.unusedVariables false

set_option maxRecDepth 100000 in
set_option maxHeartbeats 2000000 in
theorem rr_any (a : Option Addr) (len cap : Nat) (t : Nat → Nat) (w : World) (hs : Sl w a len t) (ht : Byt t) (hl : len ≤ cap) (hc : cap ≤ 9223372036854775807) :
    Calls Taig.prog 8 #[.slice a len cap] w fun e w' => e = .returned (.bool true) ∧ Below w.heap.size w w' := by
  have K1 := hide (digits_any a len cap 1300 w hl hc (by decide))
  have hm1 := Nat.min_le_left len 1300
  have hm2 := Nat.min_le_right len 1300
  have hs2 := hs.sub hm1
  have hnc := dcap_ge (n := 1300) hl
  have hcc := Nat.le_trans (dcap_le (n := 1300) hl) hc
  generalize min len 1300 = n at *
  generalize dcap len cap 1300 = c at *
  have hnil := eqNil23 none 0 0
  by_cases hbad : n = 0 ∨ ∃ i, i < n ∧ ¬ Dgt (t i)
  · have K2 := hide (newtonRead_bad a n c t w hs2 ht hbad (by omega))
    have K3 : Hid (Calls Taig.prog 17 #[.slice a n c] w fun e w' => e = .returned (.tuple #[.slice none 0 0, .bool false]) ∧ Below w.heap.size w w') := by
      rcases Nat.eq_zero_or_pos n with h0 | h0
      · subst h0
        refine (readSchool_none a c w).mono ?_
        rintro e w' ⟨rfl, rfl⟩
        exact ⟨rfl, Below.refl _ _⟩
      · refine (readSchool_any a n c t w hs2 ht h0 hnc hcc (by omega)).mono ?_
        rintro e w' ⟨hb, ⟨hall, _⟩ | ⟨_, rfl⟩⟩
        · exfalso
          rcases hbad with h | ⟨i, hi, h⟩
          · omega
          · exact h (hall i hi)
        · exact ⟨rfl, hb⟩
    clear hbad hs hs2
    go_enter Taig.func8, Taig.ntmps8
    go_wp2_with fail
    refine (unhide K1).mono ?_
    rintro e w' ⟨rfl, rfl⟩
    go_wp2_with fail
    refine (unhide K2).mono ?_
    rintro e w' ⟨rfl, rfl⟩
    go_wp2_with fail
    refine (unhide K3).mono ?_
    rintro e w1 ⟨rfl, hb1⟩
    go_wp2
    go_ret
    exact ⟨rfl, hb1⟩
  · have h0 : 0 < n := Nat.pos_of_ne_zero fun h => hbad (.inl h)
    have hd : ∀ i, i < n → Dgt (t i) := fun i hi => Classical.byContradiction fun h => hbad (.inr ⟨i, hi, h⟩)
    have K2 := newtonRead_good a n c t w hs2 ht h0 hd (by omega) hnc hcc
    have K3 : ∀ w1, Below w.heap.size w w1 → Calls Taig.prog 17 #[.slice a n c] w1 fun e w' => ∃ g, e = .returned (.tuple #[.slice g (dlen (dec t n)) (dlen (dec t n)), .bool true]) ∧ Nt w' w1.heap.size g (dec t n) ∧ Below w1.heap.size w1 w' := fun w1 hb1 => by
      refine (readSchool_any a n c t w1 (hs2.keep hb1) ht h0 hnc hcc (by omega)).mono ?_
      rintro e w' ⟨hb, ⟨_, g, rfl, hnt⟩ | ⟨⟨i, hi, h⟩, _⟩⟩
      · exact ⟨g, rfl, hnt, hb⟩
      · exact absurd (hd i hi) h
    have hDl : dlen (dec t n) ≤ 1000000 := by
      have h1 := dec_lt n (fun i hi => (hd i hi).2)
      have h2 := ten_pow_le n
      have h3 := (dlen_le_iff (dec t n) (n / 2 + 1)).2 (by omega)
      omega
    have HK2 := hide K2
    have HK3 := hide K3
    clear K2 K3 hbad hd hs hs2
    generalize dec t n = D at *
    by_cases hD : 512 < dlen D
    · go_enter Taig.func8, Taig.ntmps8
      go_wp2_with fail
      refine (unhide K1).mono ?_
      rintro e w' ⟨rfl, rfl⟩
      go_wp2_with fail
      refine (unhide HK2).mono ?_
      rintro e w1 ⟨hb1, ⟨hD2, _⟩ | ⟨_, rfl⟩⟩
      · omega
      have s1 := hb1.size
      go_wp2_with fail
      refine (unhide HK3 _ hb1).mono ?_
      rintro e w2 ⟨g, rfl, hg, hb2⟩
      go_wp2
      go_ret
      exact ⟨rfl, hb1.trans (hb2.mono s1)⟩
    · go_enter Taig.func8, Taig.ntmps8
      go_wp2_with fail
      refine (unhide K1).mono ?_
      rintro e w' ⟨rfl, rfl⟩
      go_wp2_with fail
      refine (unhide HK2).mono ?_
      rintro e w1 ⟨hb1, ⟨hD2, q, rfl, hq⟩ | ⟨hD2, _⟩⟩
      case inr => omega
      have s1 := hb1.size
      go_wp2_with fail
      refine (unhide HK3 _ hb1).mono ?_
      rintro e w2 ⟨g, rfl, hg, hb2⟩
      have s2 := hb2.size
      go_wp2_with fail
      refine (sameNat_true q g _ _ _ _ w2 (hq.keep hb2).sl hg.sl (by rw [hq.isNone, hg.isNone]) (by omega)).mono ?_
      rintro e w3 ⟨rfl, hb3⟩
      go_wp2
      go_ret
      exact ⟨rfl, (hb1.trans (hb2.mono s1)).trans (hb3.mono (by omega))⟩
end Go.Proofs.Ygctai
