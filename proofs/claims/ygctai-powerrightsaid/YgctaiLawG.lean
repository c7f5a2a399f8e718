/-
  law.ReadLongRight.
-/
import Derived.Test.YgctaiLB2
import Derived.Test.YgctaiLawB
namespace Go.Proofs.Ygctai
open Go.RowKit
set_option linter.unusedVariables false

set_option maxRecDepth 100000 in
set_option maxHeartbeats 400000 in
/-- nat.Normal. -/
theorem natNormal_true (a : Option Addr) (N cap : Nat) (w : World) (h : Nt w 0 a N) (hl : dlen N ≤ 1048576) :
    Calls Taig.prog 84 #[.slice a (dlen N) cap] w fun e w' => e = .returned (.bool true) ∧ w = w' := by
  have e1 := eqNil23 a (dlen N) cap
  rw [h.isNone] at e1
  rcases Nat.eq_zero_or_pos N with h0 | h0
  · rw [decide_eq_true h0] at e1
    clear h0 h
    go_enter Taig.func84, Taig.ntmps84
    go_wp2
    go_ret
    exact ⟨rfl, rfl⟩
  · rw [decide_eq_false (by omega)] at e1
    obtain ⟨b, off, rfl, _, r, f⟩ := h.2 h0
    have hd := dlen_pos h0
    have e2 : ((dlen N : Int) == 0) = false := by simp; omega
    have c1 := r.cell (i := dlen N - 1) (by omega)
    simp only [oct_at] at c1
    have ht := dig_top hd
    have hb := dig_lt N (dlen N - 1)
    have e3 : ((dig N (dlen N - 1) : Int) == 0) = false := by simp; omega
    have e4 : ((dig N (dlen N - 1) : Int) != 0) = true := by simp; omega
    have HT := hide ht
    clear ht h0
    go_enter Taig.func84, Taig.ntmps84
    go_wp2
    go_ret
    exact ⟨rfl, rfl⟩

set_option maxRecDepth 100000 in
set_option maxHeartbeats 400000 in
/-- law.normal. -/
theorem lawNormal_true (a : Option Addr) (N cap : Nat) (w : World) (h : Nt w 0 a N) (hl : dlen N ≤ 1048576) :
    Calls Taig.prog 83 #[.slice a (dlen N) cap] w fun e w' => e = .returned (.bool true) ∧ w = w' := by
  have e1 := eqNil23 a (dlen N) cap
  rw [h.isNone] at e1
  rcases Nat.eq_zero_or_pos N with h0 | h0
  · rw [decide_eq_true h0] at e1
    clear h0 h
    go_enter Taig.func83, Taig.ntmps83
    go_wp2
    go_ret
    exact ⟨rfl, rfl⟩
  · rw [decide_eq_false (by omega)] at e1
    obtain ⟨b, off, rfl, _, r, f⟩ := h.2 h0
    have hd := dlen_pos h0
    have c1 := r.cell (i := dlen N - 1) (by omega)
    simp only [oct_at] at c1
    have ht := dig_top hd
    have hb := dig_lt N (dlen N - 1)
    have e3 : ((dig N (dlen N - 1) : Int) == 0) = false := by simp; omega
    have e4 : ((dig N (dlen N - 1) : Int) != 0) = true := by simp; omega
    have HT := hide ht
    clear ht h0
    go_enter Taig.func83, Taig.ntmps83
    go_wp2
    go_ret
    exact ⟨rfl, rfl⟩

set_option maxRecDepth 100000 in
set_option maxHeartbeats 400000 in
/-- law.answers. -/
theorem answers_true (a b : Option Addr) (N ca cb : Nat) (w : World) (ha : Nt w 0 a N) (hb : Nt w 0 b N) (hl : dlen N ≤ 1048576) :
    Calls Taig.prog 45 #[.slice a (dlen N) ca, .slice b (dlen N) cb] w fun e w' => e = .returned (.bool true) ∧ Below w.heap.size w w' := by
  have K1 := hide (sameNat_true a b (dlen N) ca cb (dig N) w ha.sl hb.sl (by rw [ha.isNone, hb.isNone]) (by omega))
  go_enter Taig.func45, Taig.ntmps45
  go_wp2_with fail
  refine (unhide K1).mono ?_
  rintro e w1 ⟨rfl, hb1⟩
  have K2 := hide (lawNormal_true a N ca w1 (ha.keep hb1) hl)
  have K3 := hide (natNormal_true a N ca w1 (ha.keep hb1) hl)
  go_wp2_with fail
  refine (unhide K2).mono ?_
  rintro e w' ⟨rfl, rfl⟩
  go_wp2_with fail
  refine (unhide K3).mono ?_
  rintro e w' ⟨rfl, rfl⟩
  go_wp2
  go_ret
  exact ⟨rfl, hb1⟩

set_option maxRecDepth 100000 in
set_option maxHeartbeats 1000000 in
theorem rlr_any (a : Option Addr) (len cap : Nat) (t : Nat → Nat) (w : World) (hs : Sl w a len t) (ht : Byt t) (hl : len ≤ cap) (hc : cap ≤ 9223372036854775807) :
    Calls Taig.prog 14 #[.slice a len cap] w fun e w' => e = .returned (.bool true) ∧ Below w.heap.size w w' := by
  have K1 := hide (digits_any a len cap 10000 w hl hc (by decide))
  have hm1 := Nat.min_le_left len 10000
  have hm2 := Nat.min_le_right len 10000
  have hs2 := hs.sub hm1
  have hnc := dcap_ge (n := 10000) hl
  have hcc := Nat.le_trans (dcap_le (n := 10000) hl) hc
  generalize min len 10000 = n at *
  generalize dcap len cap 10000 = c at *
  by_cases hbad : n = 0 ∨ ∃ i, i < n ∧ ¬ Dgt (t i)
  · have K2 := hide (nlRead_bad a n c t w hs2 ht hbad (by omega))
    have K3 : Hid (Calls Taig.prog 17 #[.slice a n c] w fun e w' => e = .returned (.tuple #[.slice none 0 0, .bool false]) ∧ Below w.heap.size w w') := by
      rcases Nat.eq_zero_or_pos n with h0 | h0
      · subst h0
        refine (readSchool_none a c w).mono ?_
        rintro e w' ⟨rfl, rfl⟩
        exact ⟨rfl, Below.refl _ _⟩
      · refine (readSchool_any a n c t w hs2 ht h0 hnc hcc (by omega)).mono ?_
        rintro e w' ⟨hb, ⟨hall, _⟩ | ⟨_, rfl⟩⟩
        · exfalso
          rcases hbad with h | ⟨i, hi, h⟩
          · omega
          · exact h (hall i hi)
        · exact ⟨rfl, hb⟩
    clear hbad hs hs2
    go_enter Taig.func14, Taig.ntmps14
    go_wp2_with fail
    refine (unhide K1).mono ?_
    rintro e w' ⟨rfl, rfl⟩
    go_wp2_with fail
    refine (unhide K2).mono ?_
    rintro e w' ⟨rfl, rfl⟩
    go_wp2_with fail
    refine (unhide K3).mono ?_
    rintro e w1 ⟨rfl, hb1⟩
    have s1 := hb1.size
    have KA := answers_true none none 0 0 0 w1 (Nt.nil _ _) (Nt.nil _ _) (by decide)
    rw [dlen_zero] at KA
    have HKA := hide KA
    clear KA
    go_wp2_with fail
    refine (unhide HKA).mono ?_
    rintro e w2 ⟨rfl, hb2⟩
    go_wp2
    go_ret
    exact ⟨rfl, hb1.trans (hb2.mono s1)⟩
  · have h0 : 0 < n := Nat.pos_of_ne_zero fun h => hbad (.inl h)
    have hd : ∀ i, i < n → Dgt (t i) := fun i hi => Classical.byContradiction fun h => hbad (.inr ⟨i, hi, h⟩)
    have K2 := nlRead_good a n c t w hs2 ht h0 hd (by omega)
    have K3 : ∀ w1, Below w.heap.size w w1 → Calls Taig.prog 17 #[.slice a n c] w1 fun e w' => ∃ g, e = .returned (.tuple #[.slice g (dlen (dec t n)) (dlen (dec t n)), .bool true]) ∧ Nt w' w1.heap.size g (dec t n) ∧ Below w1.heap.size w1 w' := fun w1 hb1 => by
      refine (readSchool_any a n c t w1 (hs2.keep hb1) ht h0 hnc hcc (by omega)).mono ?_
      rintro e w' ⟨hb, ⟨_, g, rfl, hnt⟩ | ⟨⟨i, hi, h⟩, _⟩⟩
      · exact ⟨g, rfl, hnt, hb⟩
      · exact absurd (hd i hi) h
    have hDl : dlen (dec t n) ≤ 1000000 := by
      have h1 := dec_lt n (fun i hi => (hd i hi).2)
      have h2 := ten_pow_le n
      have h3 := (dlen_le_iff (dec t n) (n / 2 + 1)).2 (by omega)
      omega
    have HK2 := hide K2
    have HK3 := hide K3
    clear K2 K3 hbad hd hs hs2
    generalize dec t n = D at *
    go_enter Taig.func14, Taig.ntmps14
    go_wp2_with fail
    refine (unhide K1).mono ?_
    rintro e w' ⟨rfl, rfl⟩
    go_wp2_with fail
    refine (unhide HK2).mono ?_
    rintro e w1 ⟨q, rfl, hq, hb1⟩
    have s1 := hb1.size
    go_wp2_with fail
    refine (unhide HK3 _ hb1).mono ?_
    rintro e w2 ⟨g, rfl, hg, hb2⟩
    have s2 := hb2.size
    have KA := hide (answers_true q g D (dlen D) (dlen D) w2 (hq.keep hb2) (hg.mono (Nat.zero_le _)) (by omega))
    go_wp2_with fail
    refine (unhide KA).mono ?_
    rintro e w3 ⟨rfl, hb3⟩
    go_wp2
    go_ret
    exact ⟨rfl, (hb1.trans (hb2.mono s1)).trans (hb3.mono (by omega))⟩
end Go.Proofs.Ygctai
