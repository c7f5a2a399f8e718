/-
  nlong.refine.
-/
import Derived.Test.YgctaiLC2
namespace Go.Proofs.Ygctai
open Go.RowKit
set_option linter.unusedVariables false

theorem val_one_at (n : Nat) : val (upd (fun _ => 0) n 1) (n + 1) = 256 ^ n := by
  have := val_upd (fun _ => 0) (i := n) (n := n + 1) 1 (by omega)
  rw [Nat.zero_mul, Nat.add_zero, val_zero, Nat.zero_add, Nat.one_mul] at this
  exact this

set_option maxRecDepth 100000 in
set_option maxHeartbeats 1000000 in
/-- nlong.refine. -/
theorem refine_any (d x : Option Addr) (D X p k h : Nat) (w : World) (hd : Nt w 0 d (ld D p)) (hx : Nt w 0 x X) (hD : 0 < D) (hp : Hid (p = h + k)) (h4 : 4 ≤ h) (hp2 : p ≤ 5000) (hkp : k ≤ p) (hX : Rl D h X) :
    Calls Taig.prog 100 #[.slice d (dlen (ld D p)) (dlen (ld D p)), .slice x (dlen X) (dlen X), .int .i64 p, .int .i64 k] w fun e w' => ∃ c Z, e = .returned (.slice c (dlen Z) (dlen Z)) ∧ Nt w' w.heap.size c Z ∧ Rl D p Z ∧ Below w.heap.size w w' := by
  have hp5 : 4 ≤ p := by have := unhide hp; omega
  have l1 := ld_len (k := p) hD
  have l2 := rl_len hD (by omega) hX
  have l2' : dlen X ≤ p + 1 := by have := unhide hp; omega
  have hbe := hide (rl_below (unhide hp) hX)
  have HX := hide hX
  obtain ⟨Z, hZ⟩ : ∃ Z, Hid (Z = X * 256 ^ k + X * ((256 ^ (2 * p) - ld D p * X * 256 ^ k) / 256 ^ (p - 2)) / 256 ^ (2 * p - k - (p - 2))) := ⟨_, hide rfl⟩
  have HZ : Hid (Rl D p Z) := by
    rw [unhide hZ]; exact rl_refine (unhide hp) (by omega) hX rfl rfl
  clear hX l2
  generalize ld D p = Dp at *
  have hmk : ∀ w, (Instr.makeSlice 23 (.int .i64 (2 * (p : Int) + 1)) (.int .i64 (2 * (p : Int) + 1))).run Taig.prog w = .ok (.slice (some ⟨w.heap.size, 0, none⟩) (2 * p + 1) (2 * p + 1)) (w.alloc (made (.int .u8 0) (2 * p + 1) 5)) := fun w => make23 (2 * p + 1) (by omega) w
  have r0 := row_made w (.int .u8 0) (2 * p + 1) 5
  have f0 := free_made w (.int .u8 0) (2 * p + 1) 5
  have b0 := below_alloc w (made (.int .u8 0) (2 * p + 1) 5)
  have c0 := r0.cell (i := 2 * p) (by omega)
  have f0' := f0 (2 * p) (by omega)
  rw [Nat.zero_add] at c0 f0'
  have b1 := b0.setCell (p := ⟨w.heap.size, 2 * p, none⟩) (Nat.le_refl _) (.int .u8 1)
  have r1 : Row ((w.alloc (made (.int .u8 0) (2 * p + 1) 5)).setCell ⟨w.heap.size, 2 * p, none⟩ (.int .u8 1)) w.heap.size 0 (2 * p + 1) (oct (upd (fun _ => 0) (2 * p) 1)) := Row.put (f := fun _ => 0) r0 (2 * p) 1 (by omega) (by omega) rfl
  have s1 := b1.size
  have KM := hide (mulLong_any d x Dp X (dlen Dp) (dlen X) _ (hd.keep b1) (hx.keep b1) (by omega) (by omega) (Nat.le_refl _) (Nat.le_refl _) (by omega) (by omega))
  have lm : dlen (Dp * X) ≤ 2 * p + 2 := by have := dlen_mul_le (x := Dp) (y := X) (m := p + 1) (n := p + 1) (by omega) (by omega); omega
  have hbyt : Byt (upd (fun _ => 0) (2 * p) 1) := byt_zero.upd _ _ (by decide)
  clear r0 f0 b0
  go_enter Taig.func100, Taig.ntmps100
  go_wp2_with fail
  refine (unhide KM).mono ?_
  clear hmk c0 f0'
  rintro e w1 ⟨c1, rfl, n1, hb1⟩
  have r2 := r1.keep hb1
  have b2 := b1.trans (hb1.mono s1)
  clear r1 KM b1
  have KU := hide (nlUp_any c1 (Dp * X) k w1 n1.sl (by omega) (by omega))
  go_wp2_with fail
  refine (unhide KU).mono ?_
  rintro e w2 ⟨c2, rfl, n2, hb2⟩
  have s2 := b2.size
  have r3 := r2.keep hb2
  have b3 := b2.trans (hb2.mono s2)
  have s3 := b3.size
  have lu : dlen (Dp * X * 256 ^ k) ≤ 4 * p + 2 := by
    rcases Nat.eq_zero_or_pos (Dp * X) with e | e
    · rw [e, Nat.zero_mul, dlen_zero]; omega
    · rw [dlen_mul_pow k e]; omega
  have KS := sub_any (some ⟨w.heap.size, 0, none⟩) c2 (2 * p + 1) (2 * p + 1) (dlen (Dp * X * 256 ^ k)) (dlen (Dp * X * 256 ^ k)) (upd (fun _ => 0) (2 * p) 1) (dig (Dp * X * 256 ^ k)) w2 (fun _ => ⟨_, _, rfl, r3⟩) n2.sl hbyt (byt_dig _) (Nat.le_refl _) (Nat.le_refl _) (by omega) (by omega) (by omega) (by omega)
  rw [val_dig_dlen, val_one_at] at KS
  have HKS := hide KS
  clear KS r2 r3 KU
  go_wp2_with fail
  refine (unhide HKS).mono ?_
  rintro e w3 ⟨hb3, ⟨_, c3, rfl, n3⟩ | ⟨hno, _⟩⟩
  case inr => exact absurd hno (by have := unhide hbe; omega)
  clear HKS
  have b4 := b3.trans (hb3.mono s3)
  have s4 := b4.size
  obtain ⟨e0, he0⟩ : ∃ e0, Hid (256 ^ (2 * p) - Dp * X * 256 ^ k = e0) := ⟨_, rfl⟩
  rw [unhide he0] at n3 ⊢
  have le0 : dlen e0 ≤ 2 * p + 1 := by
    rw [dlen_le_iff, ← unhide he0]
    have := pow256_pos (2 * p)
    rw [Nat.pow_succ]; omega
  obtain ⟨p2, hpp⟩ : ∃ p2, Hid (p - 2 = p2) := ⟨_, rfl⟩
  have hI2 : (p : Int) - 2 = (p2 : Int) := by have := unhide hpp; omega
  have hp2l : p2 ≤ p := by have := unhide hpp; omega
  have hp2m : p ≤ p2 + 2 := by have := unhide hpp; omega
  have KD := hide (nlDown_any w2.heap.size c3 e0 p2 w3 n3 (by omega) (by omega))
  go_wp2_with fail
  refine (unhide KD).mono ?_
  rintro e w' ⟨c4, rfl, n4, rfl⟩
  clear KD
  obtain ⟨E, hE⟩ : ∃ E, Hid (e0 / 256 ^ p2 = E) := ⟨_, rfl⟩
  have lE : dlen E ≤ p + 3 := by rw [← unhide hE, dlen_div]; omega
  rw [unhide hE] at n4 ⊢
  have KM2 := hide (mulLong_any x c4 X E (dlen X) (dlen E) w3 (hx.keep b4) (n4.mono (Nat.zero_le _)) (by omega) (by omega) (Nat.le_refl _) (Nat.le_refl _) (by omega) (by omega))
  go_wp2_with fail
  refine (unhide KM2).mono ?_
  rintro e w4 ⟨c5, rfl, n5, hb5⟩
  clear KM2
  have b5 := b4.trans (hb5.mono s4)
  have s5 := b5.size
  have KU2 := hide (nlUp_any x X k w4 (hx.keep b5).sl (by omega) (by omega))
  go_wp2_with fail
  refine (unhide KU2).mono ?_
  rintro e w5 ⟨c6, rfl, n6, hb6⟩
  clear KU2
  have b6 := b5.trans (hb6.mono s5)
  have s6 := b6.size
  have l5 : dlen (X * E) ≤ 2 * p + 4 := by have := dlen_mul_le (x := X) (y := E) (m := p + 1) (n := p + 3) (by omega) (by omega); omega
  obtain ⟨j, hj⟩ : ∃ j, Hid (2 * p - k - (p - 2) = j) := ⟨_, rfl⟩
  have hjI : 2 * (p : Int) - (k : Int) - (p2 : Int) = (j : Int) := by have := unhide hj; have := unhide hpp; omega
  have hj2 : j ≤ 2 * p := by have := unhide hj; omega
  have KD2 := hide (nlDown_any 0 c5 (X * E) j w5 ((n5.keep hb6).mono (Nat.zero_le _)) (by omega) (by omega))
  go_wp2_with fail
  refine (unhide KD2).mono ?_
  rintro e w' ⟨c7, rfl, n7, rfl⟩
  clear KD2
  have l7 : dlen (X * E / 256 ^ j) ≤ 2 * p + 4 := by rw [dlen_div]; omega
  have l6 : dlen (X * 256 ^ k) ≤ 2 * p + 1 := by
    rcases Nat.eq_zero_or_pos X with e | e
    · rw [e, Nat.zero_mul, dlen_zero]; omega
    · rw [dlen_mul_pow k e]; omega
  have KA := add_any c6 c7 _ (dlen (X * 256 ^ k)) _ (dlen (X * E / 256 ^ j)) _ _ w5 n6.sl n7.sl (byt_dig _) (byt_dig _) (Nat.le_refl _) (Nat.le_refl _) (by omega) (by omega) (by omega) (by omega)
  rw [val_dig_dlen, val_dig_dlen] at KA
  have hZ2 : X * 256 ^ k + X * E / 256 ^ j = Z := by rw [unhide hZ, ← unhide hj, ← unhide hE, ← unhide he0, ← unhide hpp]
  rw [hZ2] at KA
  have HKA := hide KA
  clear KA hZ2
  go_wp2_with fail
  refine (unhide HKA).mono ?_
  rintro e w7 ⟨c8, rfl, n8, hb8⟩
  go_wp2
  go_ret
  exact ⟨c8, Z, rfl, n8.mono s6, unhide HZ, b6.trans (hb8.mono s6)⟩
end Go.Proofs.Ygctai
