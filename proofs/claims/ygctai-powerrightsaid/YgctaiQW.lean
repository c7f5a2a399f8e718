/-
  law: rowOfTwo, of Mul.
-/
import Derived.Test.YgctaiQV
namespace Go.Proofs.Ygctai
open Go.RowKit
set_option linter.unusedVariables false
attribute [local go_sem ↓] Go.wp_at_zero Go.wp_at_succ

set_option maxRecDepth 100000 in
set_option maxHeartbeats 2000000 in
theorem rowOfTwo_mul (sa so : Option Addr) (n k : Nat) (S : Nat → Nat) (ad : Nat → Option Addr) (a b : Option Addr) (M N : Nat) (w : World) (hp : Pcx w 0 sa n S ad) (ho : Oup w 0 so k) (hn : n ≤ 16) (hk : k ≤ 1024) (hc : 2 ≤ n) (ha : Nt w 0 a M) (hb : Nt w 0 b N) :
    Calls Taig.prog 113 #[.int .u8 0, .agg #[.slice sa n n, .slice so k k], .int .u8 1, .slice a (dlen M) (dlen M), .slice b (dlen N) (dlen N)] w fun e w' =>
      (dlen M ≤ 512 ∧ dlen N ≤ 512 ∧ ∃ nb d, e = .returned (.agg #[.slice (some ⟨nb, 0, none⟩) (n - 2 + 1) (n - 2 + 1), .slice so k k]) ∧ Nw w w' nb (n - 2) S ad d (M * N)) ∨
      (¬ (dlen M ≤ 512 ∧ dlen N ≤ 512) ∧ ∃ ob, e = .returned (.agg #[.slice sa n n, .slice (some ⟨ob, 0, none⟩) (k + 1) (k + 1)]) ∧ No w w' ob (k + 1)) := by
  have b0 := below_alloc w (.cells #[.slice sa n n, .slice so k k] 102)
  have s0 : (w.alloc (.cells #[.slice sa n n, .slice so k k] 102)).heap.size = w.heap.size + 1 := by simp
  have r0 := st2_new w (.slice sa n n) (.slice so k k)
  have b1 := below_alloc (w.alloc (.cells #[.slice sa n n, .slice so k k] 102)) (.cells #[.slice none 0 0, .slice none 0 0] 102)
  have r1 := st2_new (w.alloc (.cells #[.slice sa n n, .slice so k k] 102)) (.slice none 0 0) (.slice none 0 0)
  have f1 := free_new (w.alloc (.cells #[.slice sa n n, .slice so k k] 102)) #[.slice none 0 0, .slice none 0 0] 102 2
  rw [s0] at b1 r1 f1
  have r0' := r0.alloc (.cells #[.slice none 0 0, .slice none 0 0] 102)
  have s1 : ((w.alloc (.cells #[.slice sa n n, .slice so k k] 102)).alloc (.cells #[.slice none 0 0, .slice none 0 0] 102)).heap.size = w.heap.size + 2 := by simp
  have bb : Below w.heap.size w ((w.alloc (.cells #[.slice sa n n, .slice so k k] 102)).alloc (.cells #[.slice none 0 0, .slice none 0 0] 102)) := b0.trans (b1.mono (by omega))
  have HP := hide hp
  have HA := hide ha
  have HB := hide hb
  have R0 := hide r0'
  have R1 := hide r1
  have F1 := hide f1
  have HO := hide ho
  clear ha hb b0 b1 r0 hp r0' r1 f1 ho
  go_enter Taig.func113, Taig.ntmps113
  go_wp2_with fail
  generalize ((w.alloc (.cells #[.slice sa n n, .slice so k k] 102)).alloc (.cells #[.slice none 0 0, .slice none 0 0] 102)) = w2 at *
  have q0 := (unhide R0) 0 (by decide)
  have q1 := (unhide R0) 1 (by decide)
  simp only [Nat.zero_add, st2] at q0 q1
  have KS : Hid (∀ w3, Below w2.heap.size w2 w3 → Calls Taig.prog 110 #[.slice so k k, .int .i8 (-2)] w3 fun e w' => e = .returned (.slice (some ⟨w3.heap.size, 0, none⟩) (k + 1) (k + 1)) ∧ Hid (Row w' w3.heap.size 0 (k + 1) (fun _ => .int .i8 (-2))) ∧ Below w3.heap.size w3 w' ∧ Below w2.heap.size w2 w') := fun w3 h3 => by
    refine (appended_any so k k w3 ((unhide HO).keep (bb.trans (h3.mono (by omega)))) hk).mono ?_
    rintro e w' ⟨rfl, hr, hb⟩
    obtain ⟨b', e', _, r'⟩ := hr (Nat.succ_pos _)
    injection e' with e'; injection e' with e'
    subst e'
    exact ⟨rfl, r', hb, h3.trans (hb.mono h3.size)⟩
  have sz1 : (w2.alloc (.cells #[.slice none 0 0, .slice none 0 0] 102)).drew.heap.size = w2.heap.size + 1 := by simp
  have z0 := (st2_new w2 (.slice none 0 0) (.slice none 0 0)) 0 (by decide)
  have z1 := (st2_new w2 (.slice none 0 0) (.slice none 0 0)) 1 (by decide)
  have y0 := (free_new w2 #[.slice none 0 0, .slice none 0 0] 102 2).all (by decide) 0
  have y1 := (free_new w2 #[.slice none 0 0, .slice none 0 0] 102 2).all (by decide) 1
  simp only [Nat.zero_add, st2] at z0 z1
  have hlt : w.heap.size < w2.heap.size := by omega
  have hlt1 : w.heap.size + 1 < w2.heap.size := by omega
  have S1 := hide s1
  clear s1
  go_cut [11] (fun rv wc => ∃ rb nb, rv = .pointer (some ⟨rb, 0, none⟩) ∧ Hid (Mk w2 wc rb nb (k + 1) (.slice sa n n) (.slice (some ⟨nb, 0, none⟩) (k + 1) (k + 1)) (fun _ => .int .i8 (-2))))
  case first =>
    have nn0 := World.new_ne w2 _ q0
    have nn1 := World.new_ne w2 _ q1
    have nn2 : w.heap.size ≠ w2.heap.size := by omega
    have nn3 : w2.heap.size ≠ w.heap.size := by omega
    go_region_held3 (fun w' => w'.cell? ⟨w.heap.size, 0, none⟩ = some (.slice sa n n) ∧ w'.cell? ⟨w.heap.size, 1, none⟩ = some (.slice so k k)) (go_keep)
      (first
        | (go_at_call 110; refine (unhide KS _ ?_).mono ?_; exact (Below.refl _ _).drew; rintro e w4 ⟨rfl, hrow, hb4, hb24⟩; have p0 : w4.cell? ⟨w.heap.size, 0, none⟩ = some (.slice sa n n) := (hb24.cell hlt).trans q0; have p1 : w4.cell? ⟨w.heap.size, 1, none⟩ = some (.slice so k k) := (hb24.cell hlt).trans q1)
        | (go_at_call 110; refine (unhide KS _ ?_).mono ?_; exact ((Below.refl _ _).alloc (Nat.le_refl _) _).drew; rintro e w4 ⟨rfl, hrow, hb4, hb24⟩; have p0 : w4.cell? ⟨w.heap.size, 0, none⟩ = some (.slice sa n n) := (hb24.cell hlt).trans q0; have p1 : w4.cell? ⟨w.heap.size, 1, none⟩ = some (.slice so k k) := (hb24.cell hlt).trans q1
           have t0 : w4.cell? ⟨w2.heap.size, 0, none⟩ = some (.slice none 0 0) := (hb4.cell (by simp)).trans z0; have t1 : w4.cell? ⟨w2.heap.size, 1, none⟩ = some (.slice none 0 0) := (hb4.cell (by simp)).trans z1
           have t2 : w4.frozen? ⟨w2.heap.size, 0, none⟩ = false := (hb4.frozen (by simp)).trans y0; have t3 : w4.frozen? ⟨w2.heap.size, 1, none⟩ = false := (hb4.frozen (by simp)).trans y1))
    · go_wp2
      go_meet
      case rel => exact ⟨_, _, rfl, mkA _ _ (Nat.le_refl _) (unhide hrow) hb24⟩
    · go_wp2
      go_meet
      case rel => exact ⟨_, _, rfl, mkB _ _ rfl (by rw [← sz1]; exact unhide hrow) hb24 t0 t1⟩
  case rest =>
    obtain ⟨rb, nb, rfl, HM⟩ := hcut
    have bc := (unhide HM).2.2.2.2
    have sc := bc.size
    have v0 := ((unhide R1).keep bc) 0 (by decide)
    have v1 := ((unhide R1).keep bc) 1 (by decide)
    have x0 := ((unhide F1).below bc (by omega)).all (by decide) 0
    have x1 := ((unhide F1).below bc (by omega)).all (by decide) 1
    simp only [Nat.zero_add, st2] at v0 v1
    clear z0 z1 y0 y1 KS sz1
    by_cases hl : dlen M ≤ 512 ∧ dlen N ≤ 512
    · have bw := bb.trans (bc.mono (by omega))
      have p0 := (bc.cell hlt).trans q0
      have p1 := (bc.cell hlt).trans q1
      have K := hide (multipliedRow_any sa so n k 2 S ad a b M N wc ((unhide HP).keep bw) hn hc ((unhide HA).keep bw) ((unhide HB).keep bw) hl.1 hl.2)
      have h1 := hl.1
      have h2 := hl.2
      go_wp2_with fail
      refine (unhide K).mono ?_
      rintro e w5 ⟨nb5, d, rfl, hnw⟩
      have HN := hide hnw
      have bn := hnw.b
      have e0 := ((unhide R1).keep (bc.trans (bn.mono sc))) 0 (by decide)
      have e1 := ((unhide R1).keep (bc.trans (bn.mono sc))) 1 (by decide)
      have g0 := ((unhide F1).below (bc.trans (bn.mono sc)) hlt1).all (by decide) 0
      have g1 := ((unhide F1).below (bc.trans (bn.mono sc)) hlt1).all (by decide) 1
      have rng := hide (range_put ((unhide R1).keep (bc.trans (bn.mono sc))) (.slice (some ⟨nb5, 0, none⟩) (n - 2 + 1) (n - 2 + 1)) (.slice so k k))
      have fin := hide (hnw.put bw (Nat.le_succ _) (by omega) (.slice (some ⟨nb5, 0, none⟩) (n - 2 + 1) (n - 2 + 1)) (.slice so k k))
      simp only [Nat.zero_add, st2] at e0 e1
      clear hnw K v0 v1 x0 x1 p0 p1
      go_wp2
      refine bodyPost_ret (results_cell_at rfl _ _ (w.heap.size + 1) [.slice (some ⟨nb5, 0, none⟩) (n - 2 + 1) (n - 2 + 1), .slice so k k] _ rfl (unhide rng) Taig.underlying102 rfl (by rw [Taig.size102]; rfl)) rfl ?_
      exact .inl ⟨h1, h2, _, _, rfl, unhide fin⟩
    · have u0 := (unhide HM).2.2.1 0 (by decide)
      have u1 := (unhide HM).2.2.1 1 (by decide)
      simp only [Nat.zero_add, st2] at u0 u1
      have rng := hide (range_put ((unhide R1).keep bc) (.slice sa n n) (.slice (some ⟨nb, 0, none⟩) (k + 1) (k + 1)))
      have fin := hide ((unhide HM).no.put bb (Nat.le_succ _) hlt1 (.slice sa n n) (.slice (some ⟨nb, 0, none⟩) (k + 1) (k + 1)))
      have HLN := hide hl
      have ht : (decide ((512 : Int) < (dlen M : Int)) || decide ((512 : Int) < (dlen N : Int))) = true := by
        simp only [Bool.or_eq_true, decide_eq_true_eq]
        omega
      clear hl
      go_wp2
      all_goals
        refine bodyPost_ret (results_cell_at rfl _ _ (w.heap.size + 1) [.slice sa n n, .slice (some ⟨nb, 0, none⟩) (k + 1) (k + 1)] _ rfl (unhide rng) Taig.underlying102 rfl (by rw [Taig.size102]; rfl)) rfl ?_
        first
          | exact .inr ⟨unhide HLN, _, rfl, unhide fin⟩
          | exact .inr ⟨fun h => by have := unhide HLN; omega, _, rfl, unhide fin⟩
end Go.Proofs.Ygctai
