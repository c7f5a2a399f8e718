/-
  nat.Sub, nat.Succ.
-/
import Derived.Test.YgctaiCmp
namespace Go.Proofs.Ygctai
open Go.RowKit
set_option linter.unusedVariables false

/-- One step of the difference. -/
theorem sub_step {g : Nat → Nat} {X Y k bw o bw' : Nat} (hg : val g k + Y % 256 ^ k = X % 256 ^ k + bw * 256 ^ k) (hs : o + bw + dig Y k = dig X k + 256 * bw') :
    val (upd g k o) (k + 1) + Y % 256 ^ (k + 1) = X % 256 ^ (k + 1) + bw' * 256 ^ (k + 1) := by
  have e1 : X % 256 ^ (k + 1) = X % 256 ^ k + dig X k * 256 ^ k := by rw [← val_dig, ← val_dig]; rfl
  have e2 : Y % 256 ^ (k + 1) = Y % 256 ^ k + dig Y k * 256 ^ k := by rw [← val_dig, ← val_dig]; rfl
  rw [val, val_upd_ge g _ (Nat.le_refl _), upd_at, e1, e2, pow256_succ, ← Nat.mul_assoc, Nat.mul_comm bw' 256]
  have e3 : o * 256 ^ k + bw * 256 ^ k + dig Y k * 256 ^ k = dig X k * 256 ^ k + 256 * bw' * 256 ^ k := by
    rw [← Nat.add_mul, ← Nat.add_mul, ← Nat.add_mul, hs]
  omega
theorem sub_last {g : Nat → Nat} {X Y bw : Nat} (hg : val g (dlen X) + Y % 256 ^ dlen X = X % 256 ^ dlen X + bw * 256 ^ dlen X) (hb : Byt g) (h : Y ≤ X) : val g (dlen X) = X - Y := by
  rw [Nat.mod_eq_of_lt (lt_pow_dlen X), Nat.mod_eq_of_lt (Nat.lt_of_le_of_lt h (lt_pow_dlen X))] at hg
  have h1 := val_lt (dlen X) (hb.lt)
  rcases Nat.eq_zero_or_pos bw with e | e
  · subst e; omega
  · have : 1 * 256 ^ dlen X ≤ bw * 256 ^ dlen X := Nat.mul_le_mul_right _ e
    omega

set_option maxRecDepth 100000 in
set_option maxHeartbeats 1000000 in
theorem sub_core (a b x y : Option Addr) (n ca m cb X Y : Nat) (w : World)
    (k1 : Hid (Calls Taig.prog 46 #[.slice a n ca] w fun e w' => e = .returned (.slice x (dlen X) (dlen X)) ∧ w = w'))
    (k2 : Hid (Calls Taig.prog 46 #[.slice b m cb] w fun e w' => e = .returned (.slice y (dlen Y) (dlen Y)) ∧ w = w'))
    (k3 : Hid (Calls Taig.prog 33 #[.slice x (dlen X) (dlen X), .slice y (dlen Y) (dlen Y)] w fun e w' => e = .returned (.int .i8 (cmpz X Y)) ∧ Below w.heap.size w w'))
    (hx : Sl w x (dlen X) (dig X)) (hy : Sl w y (dlen Y) (dig Y)) (bx : dlen X ≤ 140737488355328) (by' : dlen Y ≤ 140737488355328) :
    Calls Taig.prog 59 #[.slice a n ca, .slice b m cb] w fun e w' => Below w.heap.size w w' ∧
      ((Y ≤ X ∧ ∃ c, e = .returned (.tuple #[.slice c (dlen (X - Y)) (dlen (X - Y)), .bool true]) ∧ Nt w' w.heap.size c (X - Y)) ∨ (X < Y ∧ e = .returned (.tuple #[.slice none 0 0, .bool false]))) := by
  rcases Nat.lt_or_ge X Y with hXY | hXY
  · rw [cmpz_lt hXY] at k3
    have HXY := hide hXY
    clear hXY
    go_enter Taig.func59, Taig.ntmps59
    go_wp2_with fail
    refine (unhide k1).mono ?_
    rintro e w' ⟨rfl, rfl⟩
    go_wp2_with fail
    refine (unhide k2).mono ?_
    rintro e w' ⟨rfl, rfl⟩
    go_wp2_with fail
    refine (unhide k3).mono ?_
    rintro e w1 ⟨rfl, hb1⟩
    go_wp2
    go_ret2
    exact ⟨hb1, .inr ⟨HXY, rfl⟩⟩
  have hc0 : 0 ≤ cmpz X Y ∧ cmpz X Y ≤ 1 := by
    unfold cmpz; rw [if_neg (by omega)]; split <;> simp
  obtain ⟨hc1, hc2⟩ := hc0
  generalize cmpz X Y = cz at *
  have hmk := make23 (dlen X) (by omega)
  have hle := dlen_mono hXY
  have HXY := hide hXY
  clear hXY
  go_enter Taig.func59, Taig.ntmps59
  go_wp2_with fail
  refine (unhide k1).mono ?_
  rintro e w' ⟨rfl, rfl⟩
  go_wp2_with fail
  refine (unhide k2).mono ?_
  rintro e w' ⟨rfl, rfl⟩
  go_wp2_with fail
  refine (unhide k3).mono ?_
  rintro e w1 ⟨rfl, hb1⟩
  have s1 := hb1.size
  have hx1 := hx.keep hb1
  have hy1 := hy.keep hb1
  clear hx hy
  go_wp2
  clear hmk
  go_loopg [7, 8] (dlen X) (fun gk bv i wr => ∃ (k bw : Nat) (g : Nat → Nat), gk = dlen X - k ∧ k ≤ dlen X ∧ i = .int .i64 k ∧ bv = .int .u16 bw ∧ bw ≤ 1 ∧ Byt g ∧ Row wr w1.heap.size 0 (dlen X) (oct g) ∧ Free wr w1.heap.size 0 (dlen X) ∧ Below w1.heap.size w1 wr ∧ Hid (val g k + Y % 256 ^ k = X % 256 ^ k + bw * 256 ^ k))
  case atStart => exact ⟨0, 0, fun _ => 0, rfl, Nat.zero_le _, rfl, rfl, by omega, byt_zero, row_made _ _ _ _, free_made _ _ _ _, below_alloc _ _, by simp [Hid, val, Nat.mod_one]⟩
  case round =>
    obtain ⟨k, bw, g, rfl, hk, rfl, rfl, hbw, hg, hrow, hfree, hbel, hval⟩ := hrel
    by_cases hlt : k < dlen X
    · obtain ⟨b1, o1, rfl, r1⟩ := hx1 (by omega)
      have c1 := (r1.keep hbel).cell hlt
      have d1 := dig_lt X k
      have d2 := dig_lt Y k
      have c3 := hrow.cell (i := k) (by omega)
      have f3 := hfree k (by omega)
      simp only [Nat.zero_add, oct_at] at c1 c3 f3
      by_cases hly : k < dlen Y
      · obtain ⟨b2, o2, rfl, r2⟩ := hy1 (by omega)
        have c2 := (r2.keep hbel).cell hly
        simp only [oct_at] at c2
        clear hx1 hy1 r1 r2
        go_wp2
        go_roundg (dlen X - (k + 1))
        case measure => omega
        case rel => exact ⟨k + 1, (if dig X k < bw + dig Y k then 1 else 0), upd g k ((dig X k + 256 - bw - dig Y k) % 256), rfl, by omega, by go_num, int_eq (by simp only [IntKind.wrap_u16]; split <;> omega), by split <;> omega, hg.upd _ _ (Nat.mod_lt _ (by decide)), hrow.put k _ (by omega) (by omega) (by simp only [IntKind.wrap_u16]; omega), hfree.setCell _ _, hbel.setCell (Nat.le_refl _) _, hide (sub_step (unhide hval) (by split <;> omega))⟩
      · have hdz : Hid (dig Y k = 0) := dig_ge (by omega)
        clear hx1 hy1 r1
        go_wp2
        go_roundg (dlen X - (k + 1))
        case measure => omega
        case rel => exact ⟨k + 1, (if dig X k < bw then 1 else 0), upd g k ((dig X k + 256 - bw) % 256), rfl, by omega, by go_num, int_eq (by simp only [IntKind.wrap_u16]; split <;> omega), by split <;> omega, hg.upd _ _ (Nat.mod_lt _ (by decide)), hrow.put k _ (by omega) (by omega) (by simp only [IntKind.wrap_u16]; omega), hfree.setCell _ _, hbel.setCell (Nat.le_refl _) _, hide (sub_step (unhide hval) (by rw [unhide hdz]; split <;> omega))⟩
    · have hk' : Hid (k = dlen X) := by unfold Hid; omega
      have hsum := sub_last (g := g) (bw := bw) (by rw [← unhide hk']; exact unhide hval) hg (unhide HXY)
      have HSum := hide hsum
      clear hsum
      go_wp2_with fail
      refine (trim_any _ _ _ g _ (fun _ => ⟨_, _, rfl, hrow⟩) hg (Nat.le_refl _) (by omega)).mono ?_
      rintro e w2 ⟨rfl, rfl⟩
      go_wp2
      go_ret2
      have := nt_of_row hg (Nat.le_refl _) hrow hfree
      rw [unhide HSum] at this ⊢
      exact ⟨hb1.trans (hbel.mono s1), .inl ⟨HXY, _, rfl, this.mono s1⟩⟩

/-- nat.Sub. -/
theorem sub_any (a b : Option Addr) (n ca m cb : Nat) (f g : Nat → Nat) (w : World) (hs : Sl w a n f) (ht : Sl w b m g) (hf : Byt f) (hg : Byt g) (hn : n ≤ ca) (hm : m ≤ cb)
    (hca : ca ≤ 9223372036854775807) (hcb : cb ≤ 9223372036854775807) (bn : n ≤ 140737488355328) (bm : m ≤ 140737488355328) :
    Calls Taig.prog 59 #[.slice a n ca, .slice b m cb] w fun e w' => Below w.heap.size w w' ∧
      ((val g m ≤ val f n ∧ ∃ c, e = .returned (.tuple #[.slice c (dlen (val f n - val g m)) (dlen (val f n - val g m)), .bool true]) ∧ Nt w' w.heap.size c (val f n - val g m)) ∨ (val f n < val g m ∧ e = .returned (.tuple #[.slice none 0 0, .bool false]))) := by
  have h1 := dlen_val_le hf n
  have h2 := dlen_val_le hg m
  have k3 := cmp_any _ _ _ _ _ _ _ _ w (hs.trim hf) (ht.trim hg) (byt_dig _) (byt_dig _) (Nat.le_refl (dlen (val f n))) (Nat.le_refl (dlen (val g m))) (by omega) (by omega) (by omega) (by omega)
  rw [val_dig_dlen, val_dig_dlen] at k3
  exact sub_core a b _ _ n ca m cb (val f n) (val g m) w (trim_any a n ca f w hs hf hn hca) (trim_any b m cb g w ht hg hm hcb) k3 (hs.trim hf) (ht.trim hg) (by omega) (by omega)

theorem one_at : ∀ i, i < 1 → (#[Value.int .u8 1] : Array Value)[i]? = some (oct (fun _ => 1) i) := fun i hi => by
  match i, hi with
  | 0, _ => rfl

set_option maxRecDepth 100000 in
set_option maxHeartbeats 1000000 in
/-- nat.Succ. -/
theorem succ_any (a : Option Addr) (n ca : Nat) (f : Nat → Nat) (w : World) (hs : Sl w a n f) (hf : Byt f) (hn : n ≤ ca) (hca : ca ≤ 9223372036854775807) (bn : n ≤ 140737488355328) :
    Calls Taig.prog 86 #[.slice a n ca] w fun e w' => ∃ c, e = .returned (.slice c (dlen (val f n + 1)) (dlen (val f n + 1))) ∧ Nt w' w.heap.size c (val f n + 1) ∧ Below w.heap.size w w' := by
  have hba := below_alloc w (.cells #[.int .u8 1] 5)
  have K := add_any a (some ⟨w.heap.size, 0, none⟩) n ca 1 1 f (fun _ => 1) (w.alloc (.cells #[.int .u8 1] 5)) (hs.keep hba) (fun _ => ⟨_, _, rfl, row_new _ _ _ _ _ one_at⟩) hf (fun _ => (by decide : 1 < 256)) hn (Nat.le_refl _) hca (by decide) bn (by decide)
  have e1 : val (fun _ => 1) 1 = 1 := by simp [val]
  rw [e1] at K
  have HK := hide K
  clear K e1
  go_enter Taig.func86, Taig.ntmps86
  go_wp2_with fail
  refine (unhide HK).mono ?_
  rintro e w2 ⟨c, rfl, hc, hb⟩
  go_wp2
  go_ret
  have := hba.size
  exact ⟨c, rfl, hc.mono this, hba.trans (hb.mono this)⟩
end Go.Proofs.Ygctai
