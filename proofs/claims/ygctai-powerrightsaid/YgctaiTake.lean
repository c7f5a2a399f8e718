/-
  nat.Take, sameNat, digits, whole, nschool.normal.
-/
import Derived.Test.YgctaiAdd
import Derived.Test.YgctaiMem
namespace Go.Proofs.Ygctai
open Go.RowKit
set_option linter.unusedVariables false

set_option maxHeartbeats 400000 in
theorem take_nil (a : Option Addr) (n cap m : Nat) (w : World) (hn : n ≤ cap) (hc : cap ≤ 9223372036854775807) (hm : Hid (m = min n 1024)) (hm1 : m ≤ n) (hm2 : m ≤ 1024)
    (k : Hid (Calls Taig.prog 46 #[.slice a m m] w fun e w' => e = .returned (.slice none 0 0) ∧ w = w')) :
    Calls Taig.prog 15 #[.slice a n cap] w fun e w' => e = .returned (.slice none 0 0) ∧ w = w' := by
  have hnil := eqNil23 none 0 0
  go_enter Taig.func15, Taig.ntmps15
  go_upto_if 9 with fail
  go_cut [3] (fun v wc => v = .int .i64 m ∧ wc = w)
  case first =>
    by_cases h : 1024 < n
    · go_wp2
      go_meet
      case rel => exact ⟨by rw [unhide hm, Nat.min_eq_right (by omega)]; rfl, rfl⟩
    · go_wp2
      go_meet
      case rel => exact ⟨by rw [unhide hm, Nat.min_eq_left (by omega)], rfl⟩
  case rest =>
    obtain ⟨rfl, rfl⟩ := hcut
    go_wp2_with fail
    refine (unhide k).mono ?_
    rintro e w2 ⟨rfl, rfl⟩
    go_wp2
    go_ret
    exact ⟨rfl, rfl⟩

set_option maxRecDepth 100000 in
set_option maxHeartbeats 400000 in
theorem take_pos (a : Option Addr) (n cap m V b off : Nat) (w : World) (hn : n ≤ cap) (hc : cap ≤ 9223372036854775807) (hm : Hid (m = min n 1024)) (hm1 : m ≤ n) (hm2 : m ≤ 1024) (hV : 0 < V) (hdl : dlen V ≤ m)
    (k : Hid (Calls Taig.prog 46 #[.slice a m m] w fun e w' => e = .returned (.slice (some ⟨b, off, none⟩) (dlen V) (dlen V)) ∧ w = w')) (r : Row w b off (dlen V) (oct (dig V))) :
    Calls Taig.prog 15 #[.slice a n cap] w fun e w' => ∃ c, e = .returned (.slice c (dlen V) (dlen V)) ∧ Nt w' w.heap.size c V ∧ Below w.heap.size w w' := by
  have hnil := eqNil23 (some ⟨b, off, none⟩) (dlen V) (dlen V)
  have hmk := make23 (dlen V) (by omega)
  have hsl : Sl (w.alloc (made (.int .u8 0) (dlen V) 5)) (some ⟨b, off, none⟩) (dlen V) (dig V) := fun _ => ⟨b, off, rfl, r.alloc _⟩
  obtain ⟨w3, hcp, hwr, hrow⟩ := copy_oct 23 23 3 Taig.underlying23 (w.alloc (made (.int .u8 0) (dlen V) 5)) w.heap.size 0 (dlen V) (dlen V) (some ⟨b, off, none⟩) (dlen V) (dlen V) (dig V) (fun _ => 0) (row_made _ _ _ _) (free_made _ _ _ _) hsl
  rw [Nat.min_self] at hcp hwr hrow
  have hnt : Nt w3 w.heap.size (some ⟨w.heap.size, 0, none⟩) V := ⟨fun h => by omega, fun _ => ⟨_, _, rfl, Nat.le_refl _, hrow.congr fun i hi => by rw [oct_at, oct_at, if_pos hi], (free_made w (.int .u8 0) (dlen V) 5).wr hwr (by simp)⟩⟩
  have hbel : Below w.heap.size w w3 := hwr.below (below_alloc _ _) (Nat.le_refl _) (by simp)
  clear hrow hwr hsl r
  go_enter Taig.func15, Taig.ntmps15
  go_upto_if 9 with fail
  go_cut [3] (fun v wc => v = .int .i64 m ∧ wc = w)
  case first =>
    by_cases h : 1024 < n
    · go_wp2
      go_meet
      case rel => exact ⟨by rw [unhide hm, Nat.min_eq_right (by omega)]; rfl, rfl⟩
    · go_wp2
      go_meet
      case rel => exact ⟨by rw [unhide hm, Nat.min_eq_left (by omega)], rfl⟩
  case rest =>
    obtain ⟨rfl, rfl⟩ := hcut
    go_wp2_with fail
    refine (unhide k).mono ?_
    rintro e w2 ⟨rfl, rfl⟩
    go_wp2
    go_ret
    exact ⟨_, rfl, hnt, hbel⟩

/-- nat.Take: the number of the lowest 1024 digits, in memory of its own. -/
theorem take_any (a : Option Addr) (n cap : Nat) (f : Nat → Nat) (w : World) (hs : Sl w a n f) (hf : Byt f) (hn : n ≤ cap) (hc : cap ≤ 9223372036854775807) :
    Calls Taig.prog 15 #[.slice a n cap] w fun e w' => ∃ c, e = .returned (.slice c (dlen (val f (min n 1024))) (dlen (val f (min n 1024)))) ∧ Nt w' w.heap.size c (val f (min n 1024)) ∧ Below w.heap.size w w' := by
  have hm1 := Nat.min_le_left n 1024
  have hm2 := Nat.min_le_right n 1024
  have hs2 := hs.sub hm1
  have k := trim_any a _ _ f w hs2 hf (Nat.le_refl _) (by omega)
  rcases Nat.eq_zero_or_pos (val f (min n 1024)) with hV | hV
  · rw [hV] at k ⊢
    refine (take_nil a n cap _ w hn hc rfl hm1 hm2 k).mono ?_
    rintro e w' ⟨rfl, rfl⟩
    exact ⟨none, rfl, Nt.nil _ _, Below.refl _ _⟩
  · obtain ⟨b, off, ha, r⟩ := hs2.trim hf (dlen_pos hV)
    rw [ha] at k
    exact take_pos a n cap _ _ b off w hn hc rfl hm1 hm2 hV (dlen_val_le hf _) k r

set_option maxHeartbeats 400000 in
/-- law.sameNat of two that are the same. -/
theorem sameNat_true (a b : Option Addr) (n ca cb : Nat) (f : Nat → Nat) (w : World) (ha : Sl w a n f) (hb : Sl w b n f) (hab : a.isNone = b.isNone) (hn : n ≤ 9223372036854775807) :
    Calls Taig.prog 19 #[.slice a n ca, .slice b n cb] w fun e w' => e = .returned (.bool true) ∧ Below w.heap.size w w' := by
  have e1 := eqNil23 a n ca
  have e2 := eqNil23 b n cb
  rw [hab] at e1
  clear hab
  go_enter Taig.func19, Taig.ntmps19
  go_wp2
  go_loopg [5] n (fun gk i wr => ∃ k : Nat, gk = n - k ∧ k ≤ n ∧ i = .int .i64 k ∧ Below w.heap.size w wr)
  case atStart => exact ⟨0, rfl, Nat.zero_le _, rfl, Below.refl _ _⟩
  case round =>
    obtain ⟨k, rfl, hk, rfl, hbel⟩ := hrel
    by_cases hlt : k < n
    · obtain ⟨b1, o1, rfl, r1⟩ := ha (by omega)
      obtain ⟨b2, o2, rfl, r2⟩ := hb (by omega)
      have c1 := (r1.keep hbel).cell hlt
      have c2 := (r2.keep hbel).cell hlt
      simp only [oct_at] at c1 c2
      clear r1 r2 ha hb
      go_wp2
      go_quiet (fail)
      go_wp2
      go_roundg (n - (k + 1))
      case measure => omega
      case rel => exact ⟨k + 1, rfl, by omega, by go_num, belowN hbel _⟩
    · go_wp2
      go_ret
      exact ⟨rfl, hbel⟩
end Go.Proofs.Ygctai
