/-
  law.whole, newton.small; law.digits.
-/
import Derived.Test.YgctaiMul
namespace Go.Proofs.Ygctai
open Go.RowKit
set_option linter.unusedVariables false

theorem shr_dig (v k : Nat) : (v : Int) / 2 ^ (8 * k) % 256 = (dig v k : Int) := by
  unfold dig; rw [← two_pow8]; simp
theorem eight : ∀ i, i < 8 → (#[Value.int .u8 0, .int .u8 0, .int .u8 0, .int .u8 0, .int .u8 0, .int .u8 0, .int .u8 0, .int .u8 0] : Array Value)[i]? = some (oct (fun _ => 0) i) := by
  intro i hi
  match i, hi with
  | 0, _ => rfl
  | 1, _ => rfl
  | 2, _ => rfl
  | 3, _ => rfl
  | 4, _ => rfl
  | 5, _ => rfl
  | 6, _ => rfl
  | 7, _ => rfl

set_option maxRecDepth 100000 in
set_option maxHeartbeats 1000000 in
theorem whole_any (v : Nat) (hv : v < 18446744073709551616) (w : World) :
    Calls Taig.prog 21 #[.int .u64 v] w fun e w' => ∃ c, e = .returned (.slice c (dlen v) (dlen v)) ∧ Nt w' w.heap.size c v ∧ Below w.heap.size w w' := by
  go_enter Taig.func21, Taig.ntmps21
  go_wp2
  go_loopg [4] 8 (fun gk i wr => ∃ (k : Nat) (g : Nat → Nat), gk = 8 - k ∧ k ≤ 8 ∧ i = .int .i64 k ∧ Byt g ∧ Hid (∀ x, x < k → g x = dig v x) ∧ Row wr w.heap.size 0 8 (oct g) ∧ Free wr w.heap.size 0 8 ∧ Below w.heap.size w wr)
  case atStart => exact ⟨0, fun _ => 0, rfl, by omega, rfl, byt_zero, fun x hx => absurd hx (by omega), row_new _ _ _ _ _ eight, free_new _ _ _ _, below_alloc _ _⟩
  case round =>
    obtain ⟨k, g, rfl, hk, rfl, hg, hlow, hrow, hfree, hbel⟩ := hrel
    by_cases hlt : k < 8
    · have c1 := hrow.cell (i := k) hlt
      have f1 := hfree k hlt
      simp only [Nat.zero_add, oct_at] at c1 f1
      go_wp2
      go_roundg (8 - (k + 1))
      case measure => omega
      case rel => exact ⟨k + 1, upd g k (dig v k), rfl, by omega, by go_num, hg.upd _ _ (dig_lt _ _), fun x hx => by
        by_cases e : x = k
        · rw [e, upd_at]
        · rw [upd_ne _ _ e]; exact unhide hlow x (by omega), hrow.put k _ hlt (by omega) (shr_dig v k), hfree.setCell _ _, hbel.setCell (Nat.le_refl _) _⟩
    · have hv8 : val g (min 8 1024) = v := by
        have e8 : k = 8 := by omega
        subst e8
        have := val_congr 8 (fun i hi => unhide hlow i hi)
        rw [show min 8 1024 = 8 from rfl, this, val_dig]; exact Nat.mod_eq_of_lt hv
      have K := take_any _ 8 8 g wr (fun _ => ⟨_, _, rfl, hrow⟩) hg (Nat.le_refl _) (by decide)
      rw [hv8] at K
      have HK := hide K
      have hsz := hbel.size
      clear K hv8 hlow hrow hfree
      go_wp2_with fail
      refine (unhide HK).mono ?_
      rintro e w2 ⟨c, rfl, hnt, hb2⟩
      go_wp2
      go_ret
      exact ⟨c, rfl, hnt.mono hsz, hbel.trans (hb2.mono hsz)⟩

set_option maxRecDepth 100000 in
set_option maxHeartbeats 1000000 in
theorem small_any (v : Nat) (hv : v < 18446744073709551616) (w : World) :
    Calls Taig.prog 64 #[.int .u64 v] w fun e w' => ∃ c, e = .returned (.slice c (dlen v) (dlen v)) ∧ Nt w' w.heap.size c v ∧ Below w.heap.size w w' := by
  go_enter Taig.func64, Taig.ntmps64
  go_wp2
  go_loopg [4] 8 (fun gk i wr => ∃ (k : Nat) (g : Nat → Nat), gk = 8 - k ∧ k ≤ 8 ∧ i = .int .i64 k ∧ Byt g ∧ Hid (∀ x, x < k → g x = dig v x) ∧ Row wr w.heap.size 0 8 (oct g) ∧ Free wr w.heap.size 0 8 ∧ Below w.heap.size w wr)
  case atStart => exact ⟨0, fun _ => 0, rfl, by omega, rfl, byt_zero, fun x hx => absurd hx (by omega), row_new _ _ _ _ _ eight, free_new _ _ _ _, below_alloc _ _⟩
  case round =>
    obtain ⟨k, g, rfl, hk, rfl, hg, hlow, hrow, hfree, hbel⟩ := hrel
    by_cases hlt : k < 8
    · have c1 := hrow.cell (i := k) hlt
      have f1 := hfree k hlt
      simp only [Nat.zero_add, oct_at] at c1 f1
      go_wp2
      go_roundg (8 - (k + 1))
      case measure => omega
      case rel => exact ⟨k + 1, upd g k (dig v k), rfl, by omega, by go_num, hg.upd _ _ (dig_lt _ _), fun x hx => by
        by_cases e : x = k
        · rw [e, upd_at]
        · rw [upd_ne _ _ e]; exact unhide hlow x (by omega), hrow.put k _ hlt (by omega) (shr_dig v k), hfree.setCell _ _, hbel.setCell (Nat.le_refl _) _⟩
    · have hv8 : val g (min 8 1024) = v := by
        have e8 : k = 8 := by omega
        subst e8
        have := val_congr 8 (fun i hi => unhide hlow i hi)
        rw [show min 8 1024 = 8 from rfl, this, val_dig]; exact Nat.mod_eq_of_lt hv
      have K := take_any _ 8 8 g wr (fun _ => ⟨_, _, rfl, hrow⟩) hg (Nat.le_refl _) (by decide)
      rw [hv8] at K
      have HK := hide K
      have hsz := hbel.size
      clear K hv8 hlow hrow hfree
      go_wp2_with fail
      refine (unhide HK).mono ?_
      rintro e w2 ⟨c, rfl, hnt, hb2⟩
      go_wp2
      go_ret
      exact ⟨c, rfl, hnt.mono hsz, hbel.trans (hb2.mono hsz)⟩

/-- What is left of the room. -/
def dcap (len cap n : Nat) : Nat := if n < len then n else cap
set_option maxHeartbeats 400000 in
/-- law.digits: cut to n. -/
theorem digits_any (a : Option Addr) (len cap n : Nat) (w : World) (hl : len ≤ cap) (hc : cap ≤ 9223372036854775807) (hn : n ≤ 9223372036854775807) :
    Calls Taig.prog 20 #[.slice a len cap, .int .i64 n] w fun e w' => e = .returned (.slice a (min len n) (dcap len cap n)) ∧ w = w' := by
  by_cases h : n < len
  · go_enter Taig.func20, Taig.ntmps20
    go_wp2
    go_ret
    exact ⟨by rw [Nat.min_eq_right (by omega), dcap, if_pos h]; rfl, rfl⟩
  · go_enter Taig.func20, Taig.ntmps20
    go_wp2
    go_ret
    exact ⟨by rw [Nat.min_eq_left (by omega), dcap, if_neg h]; rfl, rfl⟩
theorem dcap_ge {len cap n : Nat} (h : len ≤ cap) : min len n ≤ dcap len cap n := by unfold dcap; split <;> omega
theorem dcap_le {len cap n : Nat} (h : len ≤ cap) : dcap len cap n ≤ cap := by unfold dcap; split <;> omega
end Go.Proofs.Ygctai
