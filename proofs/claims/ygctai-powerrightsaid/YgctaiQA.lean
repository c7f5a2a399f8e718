/-
  calc: room, take, product.
-/
import Derived.Test.YgctaiPB
import Derived.Test.YgctaiPG
namespace Go.Proofs.Ygctai
open Go.RowKit
set_option linter.unusedVariables false

theorem room_push (w : World) : Calls Taig.prog 114 #[.int .u8 0] w fun e w' => e = .returned (.tuple #[.int .i64 0, .bool true]) ∧ w = w' := by
  go_enter Taig.func114, Taig.ntmps114
  go_wp2
  go_ret2
  exact ⟨rfl, rfl⟩
theorem room_mul (w : World) : Calls Taig.prog 114 #[.int .u8 1] w fun e w' => e = .returned (.tuple #[.int .i64 2, .bool false]) ∧ w = w' := by
  go_enter Taig.func114, Taig.ntmps114
  go_wp2
  go_ret2
  exact ⟨rfl, rfl⟩
theorem room_sqr (w : World) : Calls Taig.prog 114 #[.int .u8 4] w fun e w' => e = .returned (.tuple #[.int .i64 1, .bool false]) ∧ w = w' := by
  go_enter Taig.func114, Taig.ntmps114
  go_wp2
  go_ret2
  exact ⟨rfl, rfl⟩

set_option maxRecDepth 100000 in
/-- calc.take. -/
theorem calcTake_any (a : Option Addr) (la ca : Nat) (f : Nat → Nat) (w : World) (hs : Sl w a la f) (hf : Byt f) (hl : la ≤ ca) (hc : ca ≤ 9223372036854775807) :
    Calls Taig.prog 118 #[.slice a la ca] w fun e w' => ∃ c, e = .returned (.slice c (dlen (val f (min la 512))) (dlen (val f (min la 512)))) ∧ Nt w' w.heap.size c (val f (min la 512)) ∧ Below w.heap.size w w' := by
  by_cases h : 512 < la
  · have K := take_any a 512 512 f w (hs.sub (by omega)) hf (Nat.le_refl _) (by decide)
    rw [show min 512 1024 = 512 from rfl] at K
    rw [Nat.min_eq_right (show 512 ≤ la by omega)]
    have HK := hide K
    clear K
    obtain ⟨b, off, rfl, r⟩ := hs (by omega)
    go_enter Taig.func118, Taig.ntmps118
    go_wp2_with fail
    refine (unhide HK).mono ?_
    rintro e w' ⟨c, rfl, hn, hb⟩
    go_wp2
    go_ret
    exact ⟨c, rfl, hn, hb⟩
  · have K := take_any a la ca f w hs hf hl hc
    rw [show min la 1024 = la by omega] at K
    rw [show min la 512 = la by omega]
    have HK := hide K
    clear K
    go_enter Taig.func118, Taig.ntmps118
    go_wp2_with fail
    refine (unhide HK).mono ?_
    rintro e w' ⟨c, rfl, hn, hb⟩
    go_wp2
    go_ret
    exact ⟨c, rfl, hn, hb⟩

set_option maxRecDepth 100000 in
set_option maxHeartbeats 400000 in
/-- calc.product on each engine, within 512 digits. -/
theorem product_any (E : Nat) (a b : Option Addr) (A B : Nat) (w : World) (hE : E < 4) (ha : Nt w 0 a A) (hb : Nt w 0 b B) (l1 : dlen A ≤ 512) (l2 : dlen B ≤ 512) :
    Calls Taig.prog 139 #[.int .u8 E, .slice a (dlen A) (dlen A), .slice b (dlen B) (dlen B)] w fun e w' => ∃ d, e = .returned (.tuple #[.slice d (dlen (A * B)) (dlen (A * B)), .bool true]) ∧ Nt w' w.heap.size d (A * B) ∧ Below w.heap.size w w' := by
  have h4 : E = 0 ∨ E = 1 ∨ E = 2 ∨ E = 3 := by omega
  rcases h4 with rfl | rfl | rfl | rfl
  · have K := mul_any a b (dlen A) (dlen A) (dlen B) (dlen B) (dig A) (dig B) w ha.sl hb.sl (byt_dig _) (byt_dig _) (Nat.le_refl _) (Nat.le_refl _) (by omega) (by omega) (by omega) (by omega)
    rw [val_dig_dlen, val_dig_dlen] at K
    have HK := hide K
    clear K
    go_enter Taig.func139, Taig.ntmps139
    go_wp2_with fail
    refine (unhide HK).mono ?_
    rintro e w' ⟨c, rfl, hn, hbe⟩
    go_wp2
    go_ret2
    exact ⟨c, rfl, hn, hbe⟩
  · have K := hide (mulKara_any 8 a b A B w (Nat.le_refl _) ha hb (by omega) (by omega))
    go_enter Taig.func139, Taig.ntmps139
    go_wp2_with fail
    refine (unhide K).mono ?_
    rintro e w' ⟨c, rfl, hn, hbe⟩
    go_wp2
    go_ret2
    exact ⟨c, rfl, hn, hbe⟩
  · have K := mulFFT_any a b (dlen A) (dlen A) (dlen B) (dlen B) (dig A) (dig B) w ha.sl hb.sl (byt_dig _) (byt_dig _) l1 l2
    rw [val_dig_dlen, val_dig_dlen] at K
    have HK := hide K
    clear K
    go_enter Taig.func139, Taig.ntmps139
    go_wp2_with fail
    refine (unhide HK).mono ?_
    rintro e w' ⟨c, rfl, hn, hbe⟩
    go_wp2
    go_ret2
    exact ⟨c, rfl, hn, hbe⟩
  · have K := mulNTT_any a b (dlen A) (dlen A) (dlen B) (dlen B) (dig A) (dig B) w ha.sl hb.sl (byt_dig _) (byt_dig _) l1 l2
    rw [val_dig_dlen, val_dig_dlen] at K
    have HK := hide K
    clear K
    go_enter Taig.func139, Taig.ntmps139
    go_wp2_with fail
    refine (unhide HK).mono ?_
    rintro e w' ⟨c, rfl, hn, hbe⟩
    go_wp2
    go_ret2
    exact ⟨c, rfl, hn, hbe⟩
end Go.Proofs.Ygctai
