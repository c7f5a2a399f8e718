/-
  mschool.MulSchool.
-/
import Derived.Test.YgctaiTake
namespace Go.Proofs.Ygctai
open Go.RowKit
set_option linter.unusedVariables false

theorem mul_step {g G : Nat → Nat} {B i j cy ai t : Nat} (hg : val g (i + j) + cy * 256 ^ (i + j) = val G (i + j) + ai * (B % 256 ^ j) * 256 ^ i) (hG : g (i + j) = G (i + j)) (ht : t = ai * dig B j + g (i + j) + cy) :
    val (upd g (i + j) (t % 256)) (i + (j + 1)) + (t / 256) * 256 ^ (i + (j + 1)) = val G (i + (j + 1)) + ai * (B % 256 ^ (j + 1)) * 256 ^ i := by
  rw [← Nat.add_assoc, val, val_upd_ge g _ (Nat.le_refl _), upd_at, pow256_succ, val]
  have e3 : t % 256 * 256 ^ (i + j) + t / 256 * (256 * 256 ^ (i + j)) = t * 256 ^ (i + j) := by
    rw [← Nat.mul_assoc, ← Nat.add_mul]; congr 1; omega
  have e4 : t * 256 ^ (i + j) = ai * dig B j * 256 ^ (i + j) + G (i + j) * 256 ^ (i + j) + cy * 256 ^ (i + j) := by rw [ht, hG, Nat.add_mul, Nat.add_mul]
  have e5 : B % 256 ^ (j + 1) = B % 256 ^ j + dig B j * 256 ^ j := by rw [← val_dig, ← val_dig]; rfl
  have e6 : ai * (B % 256 ^ (j + 1)) * 256 ^ i = ai * (B % 256 ^ j) * 256 ^ i + ai * dig B j * 256 ^ (i + j) := by
    rw [e5, Nat.mul_add, Nat.add_mul, Nat.pow_add, Nat.mul_assoc ai (dig B j * _), Nat.mul_assoc (dig B j), Nat.mul_comm (256 ^ j), Nat.mul_assoc ai (dig B j)]
  rw [e6]
  omega

theorem mul_row {g G : Nat → Nat} {A B i LB cy : Nat} (hB : B < 256 ^ LB) (hg : val g (i + LB) + cy * 256 ^ (i + LB) = val G (i + LB) + dig A i * (B % 256 ^ LB) * 256 ^ i) (hG : val G (i + LB) = A % 256 ^ i * B) :
    val (upd g (i + LB) cy) (i + 1 + LB) = A % 256 ^ (i + 1) * B := by
  rw [show i + 1 + LB = i + LB + 1 by omega, val, val_upd_ge g _ (Nat.le_refl _), upd_at, hg, hG, Nat.mod_eq_of_lt hB]
  have e5 : A % 256 ^ (i + 1) = A % 256 ^ i + dig A i * 256 ^ i := by rw [← val_dig, ← val_dig]; rfl
  rw [e5, Nat.add_mul, Nat.mul_right_comm]

theorem mul_cy {a b x c : Nat} (ha : a < 256) (hb : b < 256) (hx : x < 256) (hc : c < 256) : a * b + x + c < 65536 := by
  have h1 : a * b ≤ 255 * b := Nat.mul_le_mul_right _ (by omega)
  omega

set_option maxRecDepth 100000 in
set_option maxHeartbeats 2000000 in
theorem mul_core (a b x y : Option Addr) (n ca m cb A B : Nat) (w : World)
    (k1 : Hid (Calls Taig.prog 48 #[.slice a n ca] w fun e w' => e = .returned (.slice x (dlen A) (dlen A)) ∧ w = w'))
    (k2 : Hid (Calls Taig.prog 48 #[.slice b m cb] w fun e w' => e = .returned (.slice y (dlen B) (dlen B)) ∧ w = w'))
    (hx : Sl w x (dlen A) (dig A)) (hy : Sl w y (dlen B) (dig B)) (bx : dlen A ≤ 70368744177664) (by' : dlen B ≤ 70368744177664) :
    Calls Taig.prog 23 #[.slice a n ca, .slice b m cb] w fun e w' => ∃ c, e = .returned (.slice c (dlen (A * B)) (dlen (A * B))) ∧ Nt w' w.heap.size c (A * B) ∧ Below w.heap.size w w' := by
  rcases Nat.eq_zero_or_pos A with hA | hA
  · subst hA
    rw [dlen_zero] at k1
    simp only [Nat.zero_mul, dlen_zero]
    go_enter Taig.func23, Taig.ntmps23
    go_wp2_with fail
    refine (unhide k1).mono ?_
    rintro e w' ⟨rfl, rfl⟩
    go_wp2_with fail
    refine (unhide k2).mono ?_
    rintro e w' ⟨rfl, rfl⟩
    go_wp2
    go_ret
    exact ⟨none, rfl, Nt.nil _ _, Below.refl _ _⟩
  rcases Nat.eq_zero_or_pos B with hB | hB
  · subst hB
    rw [dlen_zero] at k2
    simp only [Nat.mul_zero, dlen_zero]
    have hA1 := dlen_pos hA
    have hA2 : ((dlen A : Int) == 0) = false := by simp; omega
    go_enter Taig.func23, Taig.ntmps23
    go_wp2_with fail
    refine (unhide k1).mono ?_
    rintro e w' ⟨rfl, rfl⟩
    go_wp2_with fail
    refine (unhide k2).mono ?_
    rintro e w' ⟨rfl, rfl⟩
    go_wp2
    go_ret
    exact ⟨none, rfl, Nt.nil _ _, Below.refl _ _⟩
  have hA1 := dlen_pos hA
  have hB1 := dlen_pos hB
  have hA2 : ((dlen A : Int) == 0) = false := by simp; omega
  have hB2 : ((dlen B : Int) == 0) = false := by simp; omega
  obtain ⟨b1, o1, rfl, r1⟩ := hx hA1
  obtain ⟨b2, o2, rfl, r2⟩ := hy hB1
  clear hx hy
  have hmk : ∀ w, (Instr.makeSlice 23 (.int .i64 ((dlen A : Int) + (dlen B : Int))) (.int .i64 ((dlen A : Int) + (dlen B : Int)))).run Taig.prog w = .ok (.slice (some ⟨w.heap.size, 0, none⟩) (dlen A + dlen B) (dlen A + dlen B)) (w.alloc (made (.int .u8 0) (dlen A + dlen B) 5)) := fun w => make23 (dlen A + dlen B) (by omega) w
  go_enter Taig.func23, Taig.ntmps23
  go_wp2_with fail
  refine (unhide k1).mono ?_
  rintro e w' ⟨rfl, rfl⟩
  go_wp2_with fail
  refine (unhide k2).mono ?_
  rintro e w' ⟨rfl, rfl⟩
  go_wp2
  go_loopg [6] (dlen A) (fun gk i wr => ∃ (k : Nat) (g : Nat → Nat), gk = dlen A - k ∧ k ≤ dlen A ∧ i = .int .i64 k ∧ Byt g ∧ Row wr w.heap.size 0 (dlen A + dlen B) (oct g) ∧ Free wr w.heap.size 0 (dlen A + dlen B) ∧ Below w.heap.size w wr ∧ Hid (val g (k + dlen B) = A % 256 ^ k * B))
  case atStart => exact ⟨0, fun _ => 0, rfl, Nat.zero_le _, rfl, byt_zero, row_made _ _ _ _, free_made _ _ _ _, below_alloc _ _, by simp [Hid, val_zero, Nat.mod_one]⟩
  case round =>
    obtain ⟨k, G, rfl, hk, rfl, hG, hrow, hfree, hbel, hval⟩ := hrel
    by_cases hlt : k < dlen A
    · go_wp2
      go_loopg [7, 8] (dlen B) (fun gj c j wi => ∃ (l cy : Nat) (g : Nat → Nat), gj = dlen B - l ∧ l ≤ dlen B ∧ j = .int .i64 l ∧ c = .int .u32 cy ∧ cy ≤ 255 ∧ Byt g ∧ Hid (∀ x, k + l ≤ x → g x = G x) ∧ Row wi w.heap.size 0 (dlen A + dlen B) (oct g) ∧ Free wi w.heap.size 0 (dlen A + dlen B) ∧ Below w.heap.size w wi ∧ Hid (val g (k + l) + cy * 256 ^ (k + l) = val G (k + l) + dig A k * (B % 256 ^ l) * 256 ^ k))
      case atStart => exact ⟨0, 0, G, rfl, Nat.zero_le _, rfl, rfl, by omega, hG, fun _ _ => rfl, hrow, hfree, hbel, by simp [Hid, Nat.mod_one]⟩
      case round =>
        obtain ⟨l, cy, g, rfl, hl, rfl, rfl, hcy, hg, hhi, hrow2, hfree2, hbel2, hval2⟩ := hrel
        clear hrow hfree
        by_cases hll : l < dlen B
        · have c1 := (r1.keep hbel2).cell hlt
          have c2 := (r2.keep hbel2).cell hll
          have c3 := hrow2.cell (i := k + l) (by omega)
          have f3 := hfree2 (k + l) (by omega)
          simp only [Nat.zero_add, oct_at] at c1 c2 c3 f3
          have d1 := dig_lt A k
          have d2 := dig_lt B l
          have d3 := hg (k + l)
          have m1 := mul_cy d1 d2 d3 (c := cy) (by omega)
          have m2 : (dig A k : Int) * (dig B l : Int) + (g (k + l) : Int) + (cy : Int) < 65536 := by omega
          have m3 : (0 : Int) ≤ (dig A k : Int) * (dig B l : Int) := Int.mul_nonneg (by omega) (by omega)
          have m4 : (dig A k : Int) * (dig B l : Int) < 65536 := by omega
          clear hval
          go_wp2
          go_quiet (fail)
          go_wp2
          go_roundg (dlen B - (l + 1))
          case measure => omega
          case rel => exact ⟨l + 1, (dig A k * dig B l + g (k + l) + cy) / 256, upd g (k + l) ((dig A k * dig B l + g (k + l) + cy) % 256), rfl, by omega, by go_num, int_eq (by simp), by omega, hg.upd _ _ (Nat.mod_lt _ (by decide)), fun x hx => by rw [upd_ne _ _ (by omega)]; exact unhide hhi x (by omega), (hrow2.drewN nq).put (k + l) _ (by omega) (by omega) (by simp), (hfree2.drewN nq).setCell _ _, (belowN hbel2 nq).setCell (Nat.le_refl _) _, hide (mul_step (unhide hval2) (unhide hhi _ (Nat.le_refl _)) rfl)⟩
        · have hl' : Hid (l = dlen B) := by unfold Hid; omega
          have c3 := hrow2.cell (i := k + dlen B) (by omega)
          have f3 := hfree2 (k + dlen B) (by omega)
          simp only [Nat.zero_add, oct_at] at c3 f3
          have hv := unhide hval2
          rw [unhide hl'] at hv
          have HV := hide (mul_row (lt_pow_dlen B) hv (unhide hval))
          clear hv hval2 hhi hval
          go_wp2
          go_roundg (dlen A - (k + 1))
          case measure => omega
          case rel => exact ⟨k + 1, upd g (k + dlen B) cy, rfl, by omega, by go_num, hg.upd _ _ (by omega), hrow2.put (k + dlen B) cy (by omega) (by omega) rfl, hfree2.setCell _ _, hbel2.setCell (Nat.le_refl _) _, HV⟩
    · have hk' : Hid (k = dlen A) := by unfold Hid; omega
      have hv := unhide hval
      rw [unhide hk', Nat.mod_eq_of_lt (lt_pow_dlen A)] at hv
      have HV := hide hv
      clear hv hval
      have hnt := nt_of_row hG (Nat.le_refl _) hrow hfree
      rw [unhide HV] at hnt
      go_wp2_with fail
      have K := strip_any _ _ _ G _ (fun _ => ⟨_, _, rfl, hrow⟩) hG (Nat.le_refl (dlen A + dlen B)) (by omega)
      rw [unhide HV] at K
      refine K.mono ?_
      rintro e w2 ⟨rfl, rfl⟩
      go_wp2
      go_ret
      exact ⟨_, rfl, hnt, hbel⟩

/-- mschool.MulSchool: the product, in memory of its own. -/
theorem mul_any (a b : Option Addr) (n ca m cb : Nat) (f g : Nat → Nat) (w : World) (hs : Sl w a n f) (ht : Sl w b m g) (hf : Byt f) (hg : Byt g) (hn : n ≤ ca) (hm : m ≤ cb)
    (hca : ca ≤ 9223372036854775807) (hcb : cb ≤ 9223372036854775807) (bn : n ≤ 70368744177664) (bm : m ≤ 70368744177664) :
    Calls Taig.prog 23 #[.slice a n ca, .slice b m cb] w fun e w' => ∃ c, e = .returned (.slice c (dlen (val f n * val g m)) (dlen (val f n * val g m))) ∧ Nt w' w.heap.size c (val f n * val g m) ∧ Below w.heap.size w w' := by
  have h1 := dlen_val_le hf n
  have h2 := dlen_val_le hg m
  exact mul_core a b _ _ n ca m cb (val f n) (val g m) w (strip_any a n ca f w hs hf hn hca) (strip_any b m cb g w ht hg hm hcb) (hs.trim hf) (ht.trim hg) (by omega) (by omega)
end Go.Proofs.Ygctai
