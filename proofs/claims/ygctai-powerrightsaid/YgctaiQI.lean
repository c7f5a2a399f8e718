/-
  law: appended, stacked.
-/
import Derived.Test.YgctaiQG
namespace Go.Proofs.Ygctai
open Go.RowKit
set_option linter.unusedVariables false

theorem mm1 (m : Nat) : min m (m + 1) = m := by omega

set_option maxRecDepth 100000 in
set_option maxHeartbeats 1000000 in
theorem appended_any (a : Option Addr) (k ca : Nat) (w : World) (h : Oup w 0 a k) (hk : k ≤ 1024) :
    Calls Taig.prog 110 #[.slice a k ca, .int .i8 (-2)] w fun e w' => e = .returned (.slice (some ⟨w.heap.size, 0, none⟩) (k + 1) (k + 1)) ∧ Oup w' w.heap.size (some ⟨w.heap.size, 0, none⟩) (k + 1) ∧ Below w.heap.size w w' := by
  have hmk : (Instr.makeSlice 78 (.int .i64 ((k : Int) + 1)) (.int .i64 ((k : Int) + 1))).run Taig.prog w = .ok (.slice (some ⟨w.heap.size, 0, none⟩) (k + 1) (k + 1)) (w.alloc (made (.int .i8 0) (k + 1) 46)) := make78 (k + 1) (by omega) w
  have r0 := row_made w (.int .i8 0) (k + 1) 46
  have f0 := free_made w (.int .i8 0) (k + 1) 46
  have b1 := below_alloc w (made (.int .i8 0) (k + 1) 46)
  have hz1 : w.heap.size < (w.alloc (made (.int .i8 0) (k + 1) 46)).heap.size := by simp
  have hs : 0 < k → ∃ sb so, a = some ⟨sb, so, none⟩ ∧ Row (w.alloc (made (.int .i8 0) (k + 1) 46)) sb so k (fun _ => .int .i8 (-2)) := fun h0 => by
    obtain ⟨b, e, _, r⟩ := h h0
    exact ⟨b, 0, e, r.keep b1⟩
  obtain ⟨w2, e, hw, r2⟩ := copy_run 78 78 3 46 Taig.underlying78 Taig.size46 (w.alloc (made (.int .i8 0) (k + 1) 46)) w.heap.size 0 (k + 1) (k + 1) a k ca (fun _ => .int .i8 (-2)) (fun _ => .int .i8 0) r0 f0 hs (fun _ => rfl)
  rw [mm1] at e hw r2
  have q := r2 k (by omega)
  have f2 := f0.wr hw hz1
  have fq := f2.all (by omega) k
  rw [Nat.zero_add] at q
  have bA : Below w.heap.size w w2 := hw.below b1 (Nat.le_refl _) (by omega)
  have R2 := hide r2
  clear r2 r0 f0 f2 hs h
  go_enter Taig.func110, Taig.ntmps110
  go_wp2
  go_ret
  refine ⟨rfl, fun _ => ⟨_, rfl, Nat.le_refl _, ?_⟩, bA.setCell (Nat.le_refl _) _⟩
  have := (unhide R2).setCell (i := k) (by omega) (.int .i8 (-2))
  rw [Nat.zero_add] at this
  refine this.congr (fun i hi => ?_)
  by_cases e : i = k
  · subst e; rw [upd_at]
  · rw [upd_ne _ _ e, if_pos (by omega)]

set_option maxRecDepth 100000 in
set_option maxHeartbeats 1000000 in
theorem stacked_any (a : Option Addr) (n count : Nat) (S : Nat → Nat) (ad : Nat → Option Addr) (d : Option Addr) (N : Nat) (w : World) (hx : Pcx w 0 a n S ad) (hn : n ≤ 16) (hc : count ≤ n) :
    Calls Taig.prog 111 #[.slice a n n, .int .i64 (count : Int), .slice d (dlen N) (dlen N)] w fun e w' => e = .returned (.slice (some ⟨w.heap.size, 0, none⟩) (n - count + 1) (n - count + 1)) ∧ Row w' w.heap.size 0 (n - count + 1) (fun i => .slice (upd ad (n - count) d i) (dlen (upd S (n - count) N i)) (dlen (upd S (n - count) N i))) ∧ Below w.heap.size w w' := by
  have e1 : IntKind.i64.wrap ((n : Int) - (count : Int)) = ((n - count : Nat) : Int) := by rw [IntKind.wrap_i64]; omega
  have e2 : ((n - count : Nat) : Int) ≤ (n : Int) := by omega
  have e3 : n - count ≤ n := by omega
  generalize n - count = m at *
  have e4 : (0 : Int) ≤ (m : Int) := by omega
  have hmk : (Instr.makeSlice 66 (.int .i64 ((m : Int) + 1)) (.int .i64 ((m : Int) + 1))).run Taig.prog w = .ok (.slice (some ⟨w.heap.size, 0, none⟩) (m + 1) (m + 1)) (w.alloc (made (.slice none 0 0) (m + 1) 23)) := make66 (m + 1) (by omega) w
  have r0 := row_made w (.slice none 0 0) (m + 1) 23
  have f0 := free_made w (.slice none 0 0) (m + 1) 23
  have b1 := below_alloc w (made (.slice none 0 0) (m + 1) 23)
  have hz1 : w.heap.size < (w.alloc (made (.slice none 0 0) (m + 1) 23)).heap.size := by simp
  have hs : 0 < m → ∃ sb so, a = some ⟨sb, so, none⟩ ∧ Row (w.alloc (made (.slice none 0 0) (m + 1) 23)) sb so m (fun i => .slice (ad i) (dlen (S i)) (dlen (S i))) := fun h0 => by
    obtain ⟨b, e, _, r⟩ := hx.row (by omega)
    exact ⟨b, 0, e, (r.sub e3).keep b1⟩
  obtain ⟨w2, e, hw, r2⟩ := copy_run 66 66 3 23 Taig.underlying66 Taig.size23 (w.alloc (made (.slice none 0 0) (m + 1) 23)) w.heap.size 0 (m + 1) (m + 1) a m n (fun i => .slice (ad i) (dlen (S i)) (dlen (S i))) (fun _ => .slice none 0 0) r0 f0 hs (fun _ => rfl)
  rw [mm1] at e hw r2
  have q := r2 m (by omega)
  have f2 := f0.wr hw hz1
  have fq := f2.all (by omega) m
  rw [Nat.zero_add] at q
  have bA : Below w.heap.size w w2 := hw.below b1 (Nat.le_refl _) (by omega)
  have R2 := hide r2
  have HX := hide hx
  clear r2 r0 f0 f2 hs hx
  generalize hl : dlen N = l at *
  have HL := hide hl
  clear hl
  go_enter Taig.func111, Taig.ntmps111
  go_wp2
  go_ret
  refine ⟨rfl, ?_, bA.setCell (Nat.le_refl _) _⟩
  have := (unhide R2).setCell (i := m) (by omega) (.slice d l l)
  rw [Nat.zero_add] at this
  refine this.congr (fun i hi => ?_)
  by_cases e : i = m
  · subst e; rw [upd_at, upd_at, upd_at, unhide HL]
  · rw [upd_ne _ _ e, upd_ne _ _ e, upd_ne _ _ e, if_pos (by omega)]
end Go.Proofs.Ygctai
