/-
  calc: anyOf, sharesDigit, Check.
-/
import Derived.Test.YgctaiQB
import Derived.Test.YgctaiMF
import Derived.Test.YgctaiLawG
import Derived.Deep.QuietTactic
import Derived.BigQuiet
namespace Go.Proofs.Ygctai
open Go.RowKit
set_option linter.unusedVariables false

/-- A place that is no digit of block b. -/
def Plc (w : World) (b : Nat) (p : Value) : Prop := p = .pointer none ∨ ∃ b' o' v, p = .pointer (some ⟨b', o', none⟩) ∧ b' ≠ b ∧ w.cell? ⟨b', o', none⟩ = some v
theorem Plc.run {w : World} {b o : Nat} {p u : Value} (h : Plc w b p) (hc : w.cell? ⟨b, o, none⟩ = some u) (hf : ∀ q, w.frozen? ⟨b, q, none⟩ = false) : (binOp .eql 139 (.pointer (some ⟨b, o, none⟩)) p).run Taig.prog w = .ok (.bool false) w := by
  rcases h with rfl | ⟨b', o', v, rfl, hne, hv⟩
  · have h : ∀ d : Nat, (Op.equalIn (d + 1) 139 (.pointer (some ⟨b, o, none⟩)) (.pointer none)).run Taig.prog w = .ok false w := fun d => by
      simp [Op.equalIn, run_underlying Taig.underlying139]
    simp only [binOp]
    simp [Op.equal, Op.maxDepth, h 9999]
  · exact eqlp_other (fun e => hne (by injection e with e; exact e.symm)) hc hv hf

set_option maxRecDepth 100000 in
set_option maxHeartbeats 1000000 in
theorem anyOf_any (b off n cap fb : Nat) (c p : Nat → Value) (w : World) (hn : n ≤ 1048576) (r : Row w b off n c) (f : Free w b off n) (h8 : Row w fb 0 8 p) (hp : ∀ j, j < 8 → Plc w b (p j)) :
    Calls Taig.prog 158 #[.slice (some ⟨b, off, none⟩) n cap, .pointer (some ⟨fb, 0, none⟩)] w fun e w' => e = .returned (.bool false) ∧ Below w.heap.size w w' := by
  have q0 := h8 0 (by decide); have q1 := h8 1 (by decide); have q2 := h8 2 (by decide); have q3 := h8 3 (by decide)
  have q4 := h8 4 (by decide); have q5 := h8 5 (by decide); have q6 := h8 6 (by decide); have q7 := h8 7 (by decide)
  simp only [Nat.zero_add] at q0 q1 q2 q3 q4 q5 q6 q7
  have g0 := hide (hp 0 (by decide)); have g1 := hide (hp 1 (by decide)); have g2 := hide (hp 2 (by decide)); have g3 := hide (hp 3 (by decide))
  have g4 := hide (hp 4 (by decide)); have g5 := hide (hp 5 (by decide)); have g6 := hide (hp 6 (by decide)); have g7 := hide (hp 7 (by decide))
  clear hp h8
  generalize p 0 = p0 at *; generalize p 1 = p1 at *; generalize p 2 = p2 at *; generalize p 3 = p3 at *
  generalize p 4 = p4 at *; generalize p 5 = p5 at *; generalize p 6 = p6 at *; generalize p 7 = p7 at *
  go_enter Taig.func158, Taig.ntmps158
  go_wp2
  go_quiet (fail)
  obtain ⟨w1, hw1⟩ : ∃ x, x = w.drewN nq := ⟨_, rfl⟩
  rw [← hw1]
  have Hb : Below w.heap.size w w1 := by rw [hw1]; exact belowN (Below.refl _ _) _
  have F : Hid (∀ q, w1.frozen? ⟨b, q, none⟩ = false ∨ n = 0) := fun q => by
    rcases Nat.eq_zero_or_pos n with h | h
    · exact .inr h
    · rw [hw1]; exact .inl (f.all h q)
  have R : Row w1 b off n c := by rw [hw1]; exact r
  have G : ∀ p, Plc w b p → Plc w1 b p := fun p h => by rw [hw1]; exact h
  have G0 := hide (G _ g0); have G1 := hide (G _ g1); have G2 := hide (G _ g2); have G3 := hide (G _ g3)
  have G4 := hide (G _ g4); have G5 := hide (G _ g5); have G6 := hide (G _ g6); have G7 := hide (G _ g7)
  clear G g0 g1 g2 g3 g4 g5 g6 g7 q0 q1 q2 q3 q4 q5 q6 q7 hw1 r f
  go_wp2
  go_loopg [13] n (fun gk iv wr => ∃ i : Nat, gk = n - i ∧ i ≤ n ∧ iv = .int .i64 i ∧ w1 = wr)
  case atStart => exact ⟨0, rfl, Nat.zero_le _, rfl, rfl⟩
  case round =>
    obtain ⟨i, rfl, hi, rfl, rfl⟩ := hrel
    by_cases c1 : i < n
    · have ci := R.cell c1
      have ff : ∀ q, w1.frozen? ⟨b, q, none⟩ = false := fun q => by
        rcases unhide F q with h | h
        · exact h
        · omega
      have k0 := (unhide G0).run ci ff; have k1 := (unhide G1).run ci ff; have k2 := (unhide G2).run ci ff; have k3 := (unhide G3).run ci ff
      have k4 := (unhide G4).run ci ff; have k5 := (unhide G5).run ci ff; have k6 := (unhide G6).run ci ff; have k7 := (unhide G7).run ci ff
      clear ff ci
      go_wp2
      go_roundg (n - (i + 1))
      case measure => omega
      case rel => exact ⟨i + 1, rfl, by omega, rfl, rfl⟩
    · go_wp2
      go_ret
      exact ⟨rfl, Hb⟩

theorem Plc.keep {w w' : World} {b : Nat} {p : Value} (h : Plc w b p) (hb : Below w.heap.size w w') : Plc w' b p := by
  rcases h with rfl | ⟨b', o', v, rfl, hne, hv⟩
  · exact .inl rfl
  · exact .inr ⟨b', o', v, rfl, hne, by rw [hb.cell (World.block_lt_of_cell? _ _ hv)]; exact hv⟩

end Go.Proofs.Ygctai
