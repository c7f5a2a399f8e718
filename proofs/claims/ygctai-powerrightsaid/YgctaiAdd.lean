/-
  nat.Add.
-/
import Derived.Test.YgctaiTrim
namespace Go.Proofs.Ygctai
open Go.RowKit

/-- One step of the sum. -/
theorem add_step {g : Nat → Nat} {X Y k cy s : Nat} (hg : val g k + cy * 256 ^ k = X % 256 ^ k + Y % 256 ^ k) (hs : s = dig X k + cy + dig Y k) :
    val (upd g k (s % 256)) (k + 1) + (s / 256) * 256 ^ (k + 1) = X % 256 ^ (k + 1) + Y % 256 ^ (k + 1) := by
  have e1 : X % 256 ^ (k + 1) = X % 256 ^ k + dig X k * 256 ^ k := by rw [← val_dig, ← val_dig]; rfl
  have e2 : Y % 256 ^ (k + 1) = Y % 256 ^ k + dig Y k * 256 ^ k := by rw [← val_dig, ← val_dig]; rfl
  rw [val, val_upd_ge g _ (Nat.le_refl _), upd_at, e1, e2, pow256_succ]
  have e3 : s % 256 * 256 ^ k + s / 256 * (256 * 256 ^ k) = s * 256 ^ k := by
    rw [← Nat.mul_assoc, ← Nat.add_mul]; congr 1; omega
  have e4 : s * 256 ^ k = dig X k * 256 ^ k + cy * 256 ^ k + dig Y k * 256 ^ k := by rw [hs, Nat.add_mul, Nat.add_mul]
  omega

theorem dig_ge {N i : Nat} (h : dlen N ≤ i) : dig N i = 0 := by
  unfold dig
  rw [Nat.div_eq_of_lt (Nat.lt_of_lt_of_le (lt_pow_dlen N) (pow256_mono h))]

theorem add_last {g : Nat → Nat} {X Y cy : Nat} (hg : val g (dlen X) + cy * 256 ^ dlen X = X % 256 ^ dlen X + Y % 256 ^ dlen X) (h : dlen Y ≤ dlen X) : val (upd g (dlen X) cy) (dlen X + 1) = X + Y := by
  rw [val, val_upd_ge g _ (Nat.le_refl _), upd_at, hg, Nat.mod_eq_of_lt (lt_pow_dlen X), Nat.mod_eq_of_lt (Nat.lt_of_lt_of_le (lt_pow_dlen Y) (pow256_mono h))]

set_option maxHeartbeats 1000000 in
theorem add_core (a b x y : Option Addr) (n ca m cb X Y : Nat) (w : World)
    (k1 : Hid (Calls Taig.prog 46 #[.slice a n ca] w fun e w' => e = .returned (.slice x (dlen X) (dlen X)) ∧ w = w'))
    (k2 : Hid (Calls Taig.prog 46 #[.slice b m cb] w fun e w' => e = .returned (.slice y (dlen Y) (dlen Y)) ∧ w = w'))
    (hx : Sl w x (dlen X) (dig X)) (hy : Sl w y (dlen Y) (dig Y)) (bx : dlen X ≤ 140737488355328) (by' : dlen Y ≤ 140737488355328) :
    Calls Taig.prog 22 #[.slice a n ca, .slice b m cb] w fun e w' => ∃ c, e = .returned (.slice c (dlen (X + Y)) (dlen (X + Y))) ∧ Nt w' w.heap.size c (X + Y) ∧ Below w.heap.size w w' := by
  go_enter Taig.func22, Taig.ntmps22
  go_wp2_with fail
  refine (unhide k1).mono ?_
  rintro e w' ⟨rfl, rfl⟩
  go_wp2_with fail
  refine (unhide k2).mono ?_
  rintro e w' ⟨rfl, rfl⟩
  go_upto_if 17 with fail
  go_cut [0, 1] (fun u v wc => ∃ x' y' X' Y', u = .slice x' (dlen X') (dlen X') ∧ v = .slice y' (dlen Y') (dlen Y') ∧ dlen Y' ≤ dlen X' ∧ dlen X' ≤ 140737488355328 ∧ Sl w x' (dlen X') (dig X') ∧ Sl w y' (dlen Y') (dig Y') ∧ X' + Y' = X + Y ∧ wc = w)
  case first =>
    by_cases h : dlen X < dlen Y
    · go_wp2
      go_meet
      case rel => exact ⟨y, x, Y, X, rfl, rfl, by omega, by omega, hy, hx, Nat.add_comm _ _, rfl⟩
    · go_wp2
      go_meet
      case rel => exact ⟨x, y, X, Y, rfl, rfl, by omega, by omega, hx, hy, rfl, rfl⟩
  case rest =>
    obtain ⟨x', y', X', Y', rfl, rfl, hle, hbx, hx', hy', hS, rfl⟩ := hcut
    have HS := hide hS
    clear hS hx hy k1 k2
    have hmk : ∀ w, (Instr.makeSlice 23 (.int .i64 ((dlen X' : Int) + 1)) (.int .i64 ((dlen X' : Int) + 1))).run Taig.prog w = .ok (.slice (some ⟨w.heap.size, 0, none⟩) (dlen X' + 1) (dlen X' + 1)) (w.alloc (made (.int .u8 0) (dlen X' + 1) 5)) := fun w => make23 (dlen X' + 1) (by omega) w
    go_wp2
    go_loopg [6, 7] (dlen X') (fun gk c i wr => ∃ (k cy : Nat) (g : Nat → Nat), gk = dlen X' - k ∧ k ≤ dlen X' ∧ i = .int .i64 k ∧ c = .int .u16 cy ∧ cy ≤ 1 ∧ Byt g ∧ Row wr wc.heap.size 0 (dlen X' + 1) (oct g) ∧ Free wr wc.heap.size 0 (dlen X' + 1) ∧ Below wc.heap.size wc wr ∧ Hid (val g k + cy * 256 ^ k = X' % 256 ^ k + Y' % 256 ^ k))
    case atStart => exact ⟨0, 0, fun _ => 0, rfl, Nat.zero_le _, rfl, rfl, by omega, byt_zero, row_made _ _ _ _, free_made _ _ _ _, below_alloc _ _, by simp [Hid, val, Nat.mod_one]⟩
    case round =>
      obtain ⟨k, cy, g, rfl, hk, rfl, rfl, hcy, hg, hrow, hfree, hbel, hval⟩ := hrel
      by_cases hlt : k < dlen X'
      · obtain ⟨b1, o1, rfl, r1⟩ := hx' (by omega)
        have c1 := (r1.keep hbel).cell hlt
        have d1 := dig_lt X' k
        have d2 := dig_lt Y' k
        have c3 := hrow.cell (i := k) (by omega)
        have f3 := hfree k (by omega)
        simp only [Nat.zero_add, oct_at] at c1 c3 f3
        by_cases hly : k < dlen Y'
        · obtain ⟨b2, o2, rfl, r2⟩ := hy' (by omega)
          have c2 := (r2.keep hbel).cell hly
          simp only [oct_at] at c2
          clear hx' hy' r1 r2
          go_wp2
          go_roundg (dlen X' - (k + 1))
          case measure => omega
          case rel => exact ⟨k + 1, (dig X' k + cy + dig Y' k) / 256, upd g k ((dig X' k + cy + dig Y' k) % 256), rfl, by omega, by go_num, int_eq (by omega), by omega, hg.upd _ _ (Nat.mod_lt _ (by decide)), hrow.put k _ (by omega) (by omega) (by omega), hfree.setCell _ _, hbel.setCell (Nat.le_refl _) _, hide (add_step (unhide hval) rfl)⟩
        · have hdz : Hid (dig Y' k = 0) := dig_ge (by omega)
          clear hx' hy' r1
          go_wp2
          go_roundg (dlen X' - (k + 1))
          case measure => omega
          case rel => exact ⟨k + 1, (dig X' k + cy) / 256, upd g k ((dig X' k + cy) % 256), rfl, by omega, by go_num, int_eq (by omega), by omega, hg.upd _ _ (Nat.mod_lt _ (by decide)), hrow.put k _ (by omega) (by omega) (by omega), hfree.setCell _ _, hbel.setCell (Nat.le_refl _) _, hide (add_step (unhide hval) (by rw [unhide hdz]; rfl))⟩
      · have hk' : Hid (k = dlen X') := by unfold Hid; omega
        have c3 := hrow.cell (i := dlen X') (by omega)
        have f3 := hfree (dlen X') (by omega)
        simp only [Nat.zero_add, oct_at] at c3 f3
        go_wp2_with fail
        have hrow2 := hrow.put (o := dlen X') (z := cy) (dlen X') cy (by omega) (by omega) rfl
        have hfree2 := hfree.setCell ⟨wc.heap.size, dlen X', none⟩ (.int .u8 cy)
        have hbel2 := hbel.setCell (p := ⟨wc.heap.size, dlen X', none⟩) (Nat.le_refl _) (.int .u8 cy)
        have hg2 := hg.upd (dlen X') cy (by omega)
        have hsum := add_last (g := g) (by rw [← unhide hk']; exact unhide hval) hle
        rw [unhide HS] at hsum
        have HSum := hide hsum
        clear hsum
        refine (trim_any _ _ _ (upd g (dlen X') cy) _ (fun _ => ⟨_, _, rfl, hrow2⟩) hg2 (Nat.le_refl _) (by omega)).mono ?_
        rintro e w2 ⟨rfl, rfl⟩
        go_wp2
        go_ret
        have := nt_of_row hg2 (Nat.le_refl _) hrow2 hfree2
        rw [unhide HSum] at this ⊢
        exact ⟨_, rfl, this, hbel2⟩

/-- nat.Add: the sum, in memory of its own. -/
theorem add_any (a b : Option Addr) (n ca m cb : Nat) (f g : Nat → Nat) (w : World) (hs : Sl w a n f) (ht : Sl w b m g) (hf : Byt f) (hg : Byt g) (hn : n ≤ ca) (hm : m ≤ cb)
    (hca : ca ≤ 9223372036854775807) (hcb : cb ≤ 9223372036854775807) (bn : n ≤ 140737488355328) (bm : m ≤ 140737488355328) :
    Calls Taig.prog 22 #[.slice a n ca, .slice b m cb] w fun e w' => ∃ c, e = .returned (.slice c (dlen (val f n + val g m)) (dlen (val f n + val g m))) ∧ Nt w' w.heap.size c (val f n + val g m) ∧ Below w.heap.size w w' := by
  have h1 := dlen_val_le hf n
  have h2 := dlen_val_le hg m
  exact add_core a b _ _ n ca m cb (val f n) (val g m) w (trim_any a n ca f w hs hf hn hca) (trim_any b m cb g w ht hg hm hcb) (hs.trim hf) (ht.trim hg) (by omega) (by omega)
end Go.Proofs.Ygctai
