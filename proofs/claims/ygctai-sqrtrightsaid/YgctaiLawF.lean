/-
  law.SqrtRight.
-/
import Derived.Test.YgctaiSqD
import Derived.Test.YgctaiLawD
namespace Go.Proofs.Ygctai
open Go.RowKit
set_option linter.unusedVariables false

set_option maxRecDepth 100000 in
set_option maxHeartbeats 1000000 in
/-- newton.Sqrt where it refuses. -/
theorem newtonSqrt_bad (a : Option Addr) (A : Nat) (w : World) (ha : Nt w 0 a A) (h : 512 < dlen A) (l1 : dlen A ≤ 1048576) :
    Calls Taig.prog 26 #[.slice a (dlen A) (dlen A)] w fun e w' => e = .returned (.tuple #[.slice none 0 0, .slice none 0 0, .bool false]) ∧ w = w' := by
  have k1 := hide (newtonNormal_nt 0 a A w ha (by omega))
  go_enter Taig.func26, Taig.ntmps26
  go_wp2_with fail
  refine (unhide k1).mono ?_
  rintro e w' ⟨rfl, rfl⟩
  go_wp2
  go_ret3
  exact ⟨rfl, rfl⟩

set_option maxRecDepth 100000 in
set_option maxHeartbeats 2000000 in
theorem sqR_any (a : Option Addr) (la ca : Nat) (f : Nat → Nat) (w : World) (hs : Sl w a la f) (hf : Byt f) (hla : la ≤ ca) (hca : ca ≤ 9223372036854775807) :
    Calls Taig.prog 6 #[.slice a la ca] w fun e w' => e = .returned (.bool true) ∧ Below w.heap.size w w' := by
  have K1 := hide (take_any a la ca f w hs hf hla hca)
  have lA := dlen_take hf la
  clear hs hf
  generalize val f (min la 1024) = A at *
  have hnil := eqNil23 none 0 0
  go_enter Taig.func6, Taig.ntmps6
  go_wp2_with fail
  refine (unhide K1).mono ?_
  rintro e w1 ⟨x, rfl, hx, hb1⟩
  have s1 := hb1.size
  have hx1 := hx.mono (Nat.zero_le _)
  by_cases hbad : 512 < dlen A
  · go_wp2_with fail
    refine (newtonSqrt_bad x A w1 hx1 hbad (by omega)).mono ?_
    rintro e w' ⟨rfl, rfl⟩
    go_wp2
    go_ret
    exact ⟨rfl, hb1⟩
  · have KD := hide (newtonSqrt_good x A w1 hx1 (by omega))
    go_wp2_with fail
    refine (unhide KD).mono ?_
    rintro e w2 ⟨q, r, S, R, rfl, hq, hr, h1, h2, lS, lR, hb2⟩
    have s2 := hb2.size
    have H1 := hide h1
    have H2 := hide h2
    clear h1 h2
    have KS := hide (sqrtSchool_any x A w2 (hx1.keep hb2) (by omega))
    go_wp2_with fail
    refine (unhide KS).mono ?_
    rintro e w3 ⟨p, s, S', R', rfl, hp, hs', h3, h4, hb3⟩
    have s3 := hb3.size
    obtain ⟨rfl, rfl⟩ := sq_uniq (unhide H1) (unhide H2) h3 h4
    clear h3 h4 H1 H2
    go_wp2_with fail
    refine (sameNat_true q p _ _ _ _ w3 (hq.keep hb3).sl hp.sl (by rw [hq.isNone, hp.isNone]) (by omega)).mono ?_
    rintro e w5 ⟨rfl, hb5⟩
    have s5 := hb5.size
    go_wp2_with fail
    refine (sameNat_true r s _ _ _ _ w5 ((hr.keep hb3).keep hb5).sl (hs'.keep hb5).sl (by rw [hr.isNone, hs'.isNone]) (by omega)).mono ?_
    rintro e w6 ⟨rfl, hb6⟩
    go_wp2
    go_ret
    exact ⟨rfl, (((hb1.trans (hb2.mono s1)).trans (hb3.mono (by omega))).trans (hb5.mono (by omega))).trans (hb6.mono (by omega))⟩
end Go.Proofs.Ygctai
