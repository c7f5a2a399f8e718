/-
  law.DivRight.
-/
import Derived.Test.YgctaiDivS
import Derived.Test.YgctaiLawA
namespace Go.Proofs.Ygctai
open Go.RowKit
set_option linter.unusedVariables false

theorem dlen_take {f : Nat → Nat} (hf : Byt f) (n : Nat) : dlen (val f (min n 1024)) ≤ 1024 := Nat.le_trans (dlen_val_le hf _) (Nat.min_le_right _ _)

set_option maxRecDepth 100000 in
set_option maxHeartbeats 2000000 in
theorem dr_any (a b : Option Addr) (la ca lb cb : Nat) (f g : Nat → Nat) (w : World) (hs : Sl w a la f) (ht : Sl w b lb g) (hf : Byt f) (hg : Byt g) (hla : la ≤ ca) (hca : ca ≤ 9223372036854775807) (hlb : lb ≤ cb) (hcb : cb ≤ 9223372036854775807) :
    Calls Taig.prog 5 #[.slice a la ca, .slice b lb cb] w fun e w' => e = .returned (.bool true) ∧ Below w.heap.size w w' := by
  have K1 := hide (take_any a la ca f w hs hf hla hca)
  have K2 : Hid (∀ w1, Below w.heap.size w w1 → Calls Taig.prog 15 #[.slice b lb cb] w1 fun e w' => ∃ c, e = .returned (.slice c (dlen (val g (min lb 1024))) (dlen (val g (min lb 1024)))) ∧ Nt w' w1.heap.size c (val g (min lb 1024)) ∧ Below w1.heap.size w1 w') :=
    fun w1 h1 => take_any b lb cb g w1 (ht.keep h1) hg hlb hcb
  have lA := dlen_take hf la
  have lD := dlen_take hg lb
  clear hs ht hf hg
  generalize val f (min la 1024) = A at *
  generalize val g (min lb 1024) = D at *
  have hnil := eqNil23 none 0 0
  go_enter Taig.func5, Taig.ntmps5
  go_wp2_with fail
  refine (unhide K1).mono ?_
  rintro e w1 ⟨x, rfl, hx, hb1⟩
  have s1 := hb1.size
  go_wp2_with fail
  refine (unhide K2 w1 hb1).mono ?_
  rintro e w2 ⟨y, rfl, hy, hb2⟩
  have s2 := hb2.size
  have hb12 := hb1.trans (hb2.mono s1)
  have hx2 := (hx.keep hb2).mono (Nat.zero_le _)
  have hy2 := hy.mono (Nat.zero_le _)
  clear hx hy hb1 hb2
  by_cases hbad : D = 0 ∨ 512 < dlen A ∨ 512 < dlen D
  · have KB := hide (newtonDiv_bad x y A D w2 hx2 hy2 hbad (by omega) (by omega))
    have hny := eqNil23 y (dlen D) (dlen D)
    rcases Nat.eq_zero_or_pos D with h0 | h0
    · subst h0
      obtain rfl := hy2.1 rfl
      clear hbad hny
      rw [dlen_zero] at *
      go_wp2_with fail
      refine (unhide KB).mono ?_
      rintro e w' ⟨rfl, rfl⟩
      go_wp2
      go_ret
      exact ⟨rfl, hb12⟩
    · have hYn : y.isNone = false := by rw [hy2.isNone]; simp; omega
      rw [hYn] at hny
      by_cases hA : 512 < dlen A
      · clear hbad
        go_wp2_with fail
        refine (unhide KB).mono ?_
        rintro e w' ⟨rfl, rfl⟩
        go_wp2
        go_ret
        exact ⟨rfl, hb12⟩
      · have hB : 512 < dlen D := by omega
        clear hbad
        go_wp2_with fail
        refine (unhide KB).mono ?_
        rintro e w' ⟨rfl, rfl⟩
        go_wp2
        go_ret
        exact ⟨rfl, hb12⟩
  · have hD : 0 < D := by omega
    have hA5 : dlen A ≤ 512 := by omega
    have hD5 : dlen D ≤ 512 := by omega
    have hYn : y.isNone = false := by rw [hy2.isNone]; simp; omega
    have hny := eqNil23 y (dlen D) (dlen D)
    rw [hYn] at hny
    have KG := newtonDiv_good x y A D w2 hx2 hy2 hD hA5 hD5
    have KS := fun w3 (h3 : Below w2.heap.size w2 w3) => divSchool_good x y A D w3 (hx2.keep h3) (hy2.keep h3) hD (by omega) (by omega)
    have lQ : dlen (A / D) ≤ 512 := Nat.le_trans (dlen_mono (Nat.div_le_self _ _)) hA5
    have lR : dlen (A % D) ≤ 512 := Nat.le_trans (dlen_mono (Nat.mod_le _ _)) hA5
    have HKG := hide KG
    have HKS := hide KS
    clear KG KS hD hbad hYn
    generalize A / D = Q at *
    generalize A % D = R at *
    go_wp2_with fail
    refine (unhide HKG).mono ?_
    rintro e w3 ⟨q, r, rfl, hq, hr, hb3⟩
    have s3 := hb3.size
    go_wp2_with fail
    refine (unhide HKS w3 hb3).mono ?_
    rintro e w4 ⟨p, s, rfl, hp, hs', hb4⟩
    have s4 := hb4.size
    go_wp2_with fail
    refine (sameNat_true q p _ _ _ _ w4 (hq.keep hb4).sl hp.sl (by rw [hq.isNone, hp.isNone]) (by omega)).mono ?_
    rintro e w5 ⟨rfl, hb5⟩
    have s5 := hb5.size
    go_wp2_with fail
    refine (sameNat_true r s _ _ _ _ w5 ((hr.keep hb4).keep hb5).sl (hs'.keep hb5).sl (by rw [hr.isNone, hs'.isNone]) (by omega)).mono ?_
    rintro e w6 ⟨rfl, hb6⟩
    go_wp2
    go_ret
    exact ⟨rfl, (((hb12.trans (hb3.mono (by omega))).trans (hb4.mono (by omega))).trans (hb5.mono (by omega))).trans (hb6.mono (by omega))⟩
end Go.Proofs.Ygctai
