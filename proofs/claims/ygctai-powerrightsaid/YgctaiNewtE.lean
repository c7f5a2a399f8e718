/-
  newton.Div.
-/
import Derived.Test.YgctaiNewtD
namespace Go.Proofs.Ygctai
open Go.RowKit
set_option linter.unusedVariables false

theorem Nt.nz {w : World} {B : Nat} {a : Option Addr} {N : Nat} (h : Nt w B a N) : nz N a = a := by
  unfold Ygctai.nz; split
  · rename_i e; rw [h.1 e]
  · rfl
/-- newton.normal of a natural that is normal. -/
theorem newtonNormal_nt (B : Nat) (a : Option Addr) (A : Nat) (w : World) (h : Nt w B a A) (hb : dlen A ≤ 9223372036854775807) :
    Calls Taig.prog 49 #[.slice a (dlen A) (dlen A)] w fun e w' => e = .returned (.slice a (dlen A) (dlen A)) ∧ w = w' := by
  have k := newtonNormal_any a (dlen A) (dlen A) (dig A) w h.sl (byt_dig _) (Nat.le_refl _) hb
  rwa [val_dig_dlen, h.nz] at k

set_option maxRecDepth 100000 in
set_option maxHeartbeats 1000000 in
/-- newton.Div where it refuses. -/
theorem newtonDiv_bad (a b : Option Addr) (A D : Nat) (w : World) (ha : Nt w 0 a A) (hb : Nt w 0 b D) (h : D = 0 ∨ 512 < dlen A ∨ 512 < dlen D) (l1 : dlen A ≤ 1048576) (l2 : dlen D ≤ 1048576) :
    Calls Taig.prog 24 #[.slice a (dlen A) (dlen A), .slice b (dlen D) (dlen D)] w fun e w' => e = .returned (.tuple #[.slice none 0 0, .slice none 0 0, .bool false]) ∧ w = w' := by
  have k1 := hide (newtonNormal_nt 0 a A w ha (by omega))
  have k2 := hide (newtonNormal_nt 0 b D w hb (by omega))
  rcases Nat.eq_zero_or_pos D with h0 | h0
  · subst h0
    rw [dlen_zero] at *
    go_enter Taig.func24, Taig.ntmps24
    go_wp2_with fail
    refine (unhide k1).mono ?_
    rintro e w' ⟨rfl, rfl⟩
    go_wp2_with fail
    refine (unhide k2).mono ?_
    rintro e w' ⟨rfl, rfl⟩
    go_wp2
    go_ret3
    exact ⟨rfl, rfl⟩
  have hd := dlen_pos h0
  have e1 : ((dlen D : Int) == 0) = false := by simp; omega
  by_cases hA : 512 < dlen A
  · go_enter Taig.func24, Taig.ntmps24
    go_wp2_with fail
    refine (unhide k1).mono ?_
    rintro e w' ⟨rfl, rfl⟩
    go_wp2_with fail
    refine (unhide k2).mono ?_
    rintro e w' ⟨rfl, rfl⟩
    go_wp2
    go_ret3
    exact ⟨rfl, rfl⟩
  · have hB : 512 < dlen D := by omega
    clear h
    go_enter Taig.func24, Taig.ntmps24
    go_wp2_with fail
    refine (unhide k1).mono ?_
    rintro e w' ⟨rfl, rfl⟩
    go_wp2_with fail
    refine (unhide k2).mono ?_
    rintro e w' ⟨rfl, rfl⟩
    go_wp2
    go_ret3
    exact ⟨rfl, rfl⟩

set_option maxRecDepth 100000 in
set_option maxHeartbeats 1000000 in
/-- newton.Div. -/
theorem newtonDiv_good (a b : Option Addr) (A D : Nat) (w : World) (ha : Nt w 0 a A) (hb : Nt w 0 b D) (hD : 0 < D) (l1 : dlen A ≤ 512) (l2 : dlen D ≤ 512) :
    Calls Taig.prog 24 #[.slice a (dlen A) (dlen A), .slice b (dlen D) (dlen D)] w fun e w' => ∃ q r, e = .returned (.tuple #[.slice q (dlen (A / D)) (dlen (A / D)), .slice r (dlen (A % D)) (dlen (A % D)), .bool true]) ∧
      Nt w' w.heap.size q (A / D) ∧ Nt w' w.heap.size r (A % D) ∧ Below w.heap.size w w' := by
  have k1 := hide (newtonNormal_nt 0 a A w ha (by omega))
  have k2 := hide (newtonNormal_nt 0 b D w hb (by omega))
  have hd := dlen_pos hD
  have e1 : ((dlen D : Int) == 0) = false := by simp; omega
  rcases Nat.lt_or_ge (dlen A) (dlen D) with hlt | hge
  · have hAD := lt_of_dlen hlt
    rw [Nat.div_eq_of_lt hAD, Nat.mod_eq_of_lt hAD, dlen_zero]
    have KA := add_any a none _ (dlen A) 0 0 _ (fun _ => 0) w ha.sl (fun h => absurd h (by decide)) (byt_dig _) byt_zero (Nat.le_refl _) (Nat.le_refl _) (by omega) (by omega) (by omega) (by omega)
    rw [val_dig_dlen, val, Nat.add_zero] at KA
    have HKA := hide KA
    clear KA hAD
    go_enter Taig.func24, Taig.ntmps24
    go_wp2_with fail
    refine (unhide k1).mono ?_
    rintro e w' ⟨rfl, rfl⟩
    go_wp2_with fail
    refine (unhide k2).mono ?_
    rintro e w' ⟨rfl, rfl⟩
    go_wp2_with fail
    refine (unhide HKA).mono ?_
    rintro e w2 ⟨c, rfl, hc, hb2⟩
    go_wp2
    go_ret3
    exact ⟨none, c, rfl, Nt.nil _ _, hc, hb2⟩
  · have HD := hide hD
    clear hD
    obtain ⟨Q, HQ⟩ : ∃ Q, Hid (A / D = Q) := ⟨_, rfl⟩
    obtain ⟨R, HR⟩ : ∃ R, Hid (A % D = R) := ⟨_, rfl⟩
    rw [unhide HQ, unhide HR]
    go_enter Taig.func24, Taig.ntmps24
    go_wp2_with fail
    refine (unhide k1).mono ?_
    rintro e w' ⟨rfl, rfl⟩
    go_wp2_with fail
    refine (unhide k2).mono ?_
    rintro e w' ⟨rfl, rfl⟩
    go_wp2_with fail
    refine (reciprocal_any b D (dlen A) w hb (unhide HD) hge l1).mono ?_
    rintro e w2 ⟨x, X, rfl, hx, hX, lX, hb2⟩
    have s2 := hb2.size
    have HK := hide (divide_any a b x A D X (dlen A) w2 (ha.keep hb2) (hb.keep hb2) hx (unhide HD) hX l1 l2 lX (by omega))
    rw [unhide HQ, unhide HR] at HK
    clear hX HQ HR
    go_wp2_with fail
    refine (unhide HK).mono ?_
    rintro e w3 ⟨q, r, rfl, hq, hr, hb3⟩
    go_wp2
    go_ret3
    exact ⟨q, r, rfl, hq.mono s2, hr.mono s2, hb2.trans (hb3.mono s2)⟩
end Go.Proofs.Ygctai
