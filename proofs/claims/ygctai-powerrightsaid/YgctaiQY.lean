/-
  law: sameOut, isOutcome, cutScript.
-/
import Derived.Test.YgctaiQG
import Derived.Test.YgctaiCmp
import Derived.Test.YgctaiQQ
import Derived.Deep.RegionHeld3
namespace Go.Proofs.Ygctai
open Go.RowKit
set_option linter.unusedVariables false
attribute [local go_sem ↓] Go.wp_at_zero Go.wp_at_succ

set_option maxRecDepth 100000 in
set_option maxHeartbeats 1000000 in
theorem sameOut_any (a b : Option Addr) (k ca cb : Nat) (w : World) (ha : Oup w 0 a k) (hb : Oup w 0 b k) (hk : k ≤ 1024) :
    Calls Taig.prog 96 #[.slice a k ca, .slice b k cb] w fun e w' => e = .returned (.bool true) ∧ Below w.heap.size w w' := by
  have HA := hide ha
  have HB := hide hb
  clear ha hb
  go_enter Taig.func96, Taig.ntmps96
  go_wp2
  go_loopg [5] k (fun gk iv wr => ∃ i : Nat, gk = k - i ∧ i ≤ k ∧ iv = .int .i64 (i : Int) ∧ Below w.heap.size w wr)
  case atStart => exact ⟨0, rfl, Nat.zero_le _, rfl, Below.refl _ _⟩
  case round =>
    obtain ⟨i, rfl, hi, rfl, hbr⟩ := hrel
    by_cases ci : i < k
    · obtain ⟨b1, rfl, _, r1⟩ := (unhide HA).keep hbr (by omega)
      obtain ⟨b2, rfl, _, r2⟩ := (unhide HB).keep hbr (by omega)
      have c1 := r1 i ci
      have c2 := r2 i ci
      rw [Nat.zero_add] at c1 c2
      have i2 : (0 : Int) ≤ (i : Int) := by omega
      have i3 : (i : Int) < (k : Int) := by omega
      clear r1 r2
      go_wp2
      go_region
      go_wp2
      go_roundg (k - (i + 1))
      case measure => omega
      case rel => exact ⟨i + 1, rfl, by omega, rfl, hbr.drew⟩
    · go_wp2
      go_ret
      exact ⟨rfl, hbr⟩

theorem cutScript_any (a : Option Addr) (n cap : Nat) (w : World) (hn : n ≤ 128) :
    Calls Taig.prog 93 #[.slice a n cap] w fun e w' => e = .returned (.slice a n cap) ∧ w = w' := by
  go_enter Taig.func93, Taig.ntmps93
  go_wp2
  go_ret
  exact ⟨rfl, rfl⟩

set_option maxRecDepth 100000 in
set_option maxHeartbeats 2000000 in
theorem isOutcome_any (sa so ta oo : Option Addr) (n k ct co : Nat) (S : Nat → Nat) (ad ad' : Nat → Option Addr) (w : World) (hs : Pcx w 0 sa n S ad) (ho : Oup w 0 so k) (ht : Pcx w 0 ta n S ad') (hto : Oup w 0 oo k) (hn : n ≤ 16) (hk : k ≤ 1024) (hl : ∀ i, i < n → dlen (S i) ≤ 1024) :
    Calls Taig.prog 67 #[.agg #[.bool false, .slice sa n n, .slice so k k], .slice ta n ct, .slice oo k co] w fun e w' => e = .returned (.bool true) ∧ Below w.heap.size w w' := by
  have e3 : ∀ i, i < 3 → (#[.bool false, .slice sa n n, .slice so k k] : Array Value)[i]? = some (oc3 (.slice sa n n) (.slice so k k) i) := fun i hi => by
    match i, hi with
    | 0, _ => rfl
    | 1, _ => rfl
    | 2, _ => rfl
  have r0 := row_new w _ 80 3 _ e3
  have b0 := below_alloc w (.cells #[.bool false, .slice sa n n, .slice so k k] 80)
  have s0 : w.heap.size < (w.alloc (.cells #[.bool false, .slice sa n n, .slice so k k] 80)).heap.size := by simp
  have K := hide (sameOut_any so oo k k co (w.alloc (.cells #[.bool false, .slice sa n n, .slice so k k] 80)) (ho.keep b0) (hto.keep b0) hk)
  have HS := hide (hs.keep b0)
  have HT := hide (ht.keep b0)
  have HL := hide hl
  have R0 := hide r0
  clear hs ht hl r0 ho hto
  go_enter Taig.func67, Taig.ntmps67
  go_wp2_with fail
  generalize w.alloc (.cells #[.bool false, .slice sa n n, .slice so k k] 80) = w1 at *
  refine (unhide K).mono ?_
  rintro e w2 ⟨rfl, hb2⟩
  clear K
  go_wp2
  go_loopg [7] n (fun gk iv wr => ∃ i : Nat, gk = n - i ∧ i ≤ n ∧ iv = .int .i64 (i : Int) ∧ Below w1.heap.size w1 wr)
  case atStart => exact ⟨0, rfl, Nat.zero_le _, rfl, hb2⟩
  case round =>
    obtain ⟨i, rfl, hi, rfl, hbr⟩ := hrel
    by_cases ci : i < n
    · have q1 := ((unhide R0).keep hbr) 1 (by decide)
      obtain ⟨b1, rfl, _, r1⟩ := ((unhide HS).keep hbr).row (by omega)
      obtain ⟨b2, rfl, _, r2⟩ := ((unhide HT).keep hbr).row (by omega)
      have c1 := r1 i ci
      have c2 := r2 i ci
      simp only [Nat.zero_add, oc3] at c1 c2 q1
      have n1 := ((unhide HS).keep hbr).ent i ci
      have n2 := ((unhide HT).keep hbr).ent i ci
      have li := unhide HL i ci
      have KC : Hid (∀ w3, Below wr.heap.size wr w3 → Calls Taig.prog 33 #[.slice (ad i) (dlen (S i)) (dlen (S i)), .slice (ad' i) (dlen (S i)) (dlen (S i))] w3 fun e w' => e = .returned (.int .i8 0) ∧ Below wr.heap.size wr w') := fun w3 h3 => by
        have := cmp_any (ad i) (ad' i) (dlen (S i)) (dlen (S i)) (dlen (S i)) (dlen (S i)) (dig (S i)) (dig (S i)) w3 (n1.keep h3).sl (n2.keep h3).sl (byt_dig _) (byt_dig _) (Nat.le_refl _) (Nat.le_refl _) (by omega) (by omega) (by omega) (by omega)
        rw [cmpz_eq] at this
        refine this.mono ?_
        rintro e w' ⟨rfl, hb⟩
        exact ⟨rfl, h3.trans (hb.mono h3.size)⟩
      have i2 : (0 : Int) ≤ (i : Int) := by omega
      have i3 : (i : Int) < (n : Int) := by omega
      clear r1 r2 n1 n2 li
      have hq1 := World.block_lt_of_cell? _ _ q1
      have hc1 := World.block_lt_of_cell? _ _ c1
      have hc2 := World.block_lt_of_cell? _ _ c2
      generalize dlen (S i) = l at *
      go_wp2
      go_region_held3 (fun w' => w'.cell? ⟨w.heap.size, 1, none⟩ = some (.slice (some ⟨b1, 0, none⟩) n n) ∧ w'.cell? ⟨b1, i, none⟩ = some (.slice (ad i) l l) ∧ w'.cell? ⟨b2, i, none⟩ = some (.slice (ad' i) l l)) (go_keep)
        (first | (go_at_call 33; refine (unhide KC _ ?_).mono ?_; exact (Below.refl _ _).drew; rintro e w5 ⟨rfl, hb5⟩; have t0 : w5.cell? ⟨w.heap.size, 1, none⟩ = some (.slice (some ⟨b1, 0, none⟩) n n) := (hb5.cell hq1).trans q1; have t1 : w5.cell? ⟨b1, i, none⟩ = some (.slice (ad i) l l) := (hb5.cell hc1).trans c1; have t2 : w5.cell? ⟨b2, i, none⟩ = some (.slice (ad' i) l l) := (hb5.cell hc2).trans c2))
      go_wp2
      go_roundg (n - (i + 1))
      case measure => omega
      case rel => exact ⟨i + 1, rfl, by omega, rfl, hbr.trans (hb5.mono hbr.size)⟩
    · go_wp2
      go_ret
      exact ⟨rfl, b0.trans (hbr.mono (by omega))⟩
end Go.Proofs.Ygctai
