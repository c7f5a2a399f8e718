/-
  nschool.double, nschool.less, nschool.take, nschool.bit.
-/
import Derived.Test.YgctaiSub
import Derived.Test.YgctaiFftB
namespace Go.Proofs.Ygctai
open Go.RowKit
set_option linter.unusedVariables false

/-- 2 x + v, one digit. -/
theorem dbl_step {g f : Nat → Nat} {k cy o cy' v : Nat} (hg : val g k + cy * 256 ^ k = 2 * val f k + v) (ho : o + 256 * cy' = 2 * f k + cy) :
    val (upd g k o) (k + 1) + cy' * 256 ^ (k + 1) = 2 * val f (k + 1) + v := by
  rw [val, val_upd_ge g _ (Nat.le_refl _), upd_at, val, pow256_succ, ← Nat.mul_assoc, Nat.mul_comm cy' 256]
  have e : o * 256 ^ k + 256 * cy' * 256 ^ k = 2 * f k * 256 ^ k + cy * 256 ^ k := by rw [← Nat.add_mul, ← Nat.add_mul, ho]
  rw [Nat.mul_add, ← Nat.mul_assoc]
  omega

theorem or8 {x c : Nat} (hx : x < 256) (hc : c ≤ 1) : bits .or .u8 ((x : Int) * 2 % 256) (c : Int) = ((x * 2 % 256 + c : Nat) : Int) := by
  have h1 := Nat.shiftLeft_add_eq_or_of_lt (i := 1) (b := c) (by omega) (x % 128)
  rw [Nat.shiftLeft_eq, show x % 128 * 2 ^ 1 = x * 2 % 256 by omega] at h1
  have := u8_or_nat (x * 2 % 256) c (by omega) (by omega)
  rw [← h1] at this
  rw [← this]; simp

set_option maxRecDepth 100000 in
set_option maxHeartbeats 1000000 in
/-- nschool.double. -/
theorem double_any (b off n cap : Nat) (f : Nat → Nat) (v : Nat) (w : World) (hrow : Row w b off n (oct f)) (hfree : Free w b off n) (hf : Byt f) (hv : v ≤ 1) (hn : n ≤ 1099511627776) (hbl : 0 < n) :
    Calls Taig.prog 52 #[.slice (some ⟨b, off, none⟩) n cap, .int .u8 v] w fun e w' => ∃ g, e = .returned (.tuple #[]) ∧ Byt g ∧ val g n = (2 * val f n + v) % 256 ^ n ∧ Row w' b off n (oct g) ∧ Wr b off (off + n) w w' := by
  have hbl := hrow.block_lt hbl
  go_enter Taig.func52, Taig.ntmps52
  go_wp2
  go_loopg [1, 4] n (fun gk cv iv wr => ∃ (k cy : Nat) (g : Nat → Nat), gk = n - k ∧ k ≤ n ∧ iv = .int .i64 k ∧ cv = .int .u8 cy ∧ cy ≤ 1 ∧ Byt g ∧ Hid (∀ x, k ≤ x → g x = f x) ∧ Row wr b off n (oct g) ∧ Wr b off (off + n) w wr ∧ Hid (val g k + cy * 256 ^ k = 2 * val f k + v))
  case atStart => exact ⟨0, v, f, rfl, Nat.zero_le _, rfl, rfl, hv, hf, fun _ _ => rfl, hrow, Wr.refl _ _ _ _, by simp [Hid, val]⟩
  case round =>
    obtain ⟨k, cy, g, rfl, hk, rfl, rfl, hcy, hg, hhi, hr, hwr, hval⟩ := hrel
    by_cases hlt : k < n
    · have c1 := hr.cell hlt
      have f1 := (hfree.wr hwr hbl) k hlt
      have d1 := hf k
      have e1 := unhide hhi k (Nat.le_refl _)
      simp only [oct_at] at c1
      rw [e1] at c1
      have o1 := or8 d1 hcy
      clear e1
      go_wp2
      go_region
      all_goals
        go_wp2
        go_roundg (n - (k + 1))
        case measure => omega
        case rel => exact ⟨k + 1, f k / 128, upd g k (f k * 2 % 256 + cy), rfl, by omega, by go_num, int_eq (by omega), by omega, hg.upd _ _ (by omega), fun x hx => by rw [upd_ne _ _ (by omega)]; exact unhide hhi x (by omega), (hr.put k _ hlt rfl (by omega)).drew, (hwr.setCell (by omega) (by omega) _).drew, hide (dbl_step (unhide hval) (by omega))⟩
    · have hk' : Hid (k = n) := by unfold Hid; omega
      go_wp2
      go_end0
      refine ⟨g, rfl, hg, ?_, hr, hwr⟩
      have h1 := unhide hval
      rw [unhide hk'] at h1
      rw [← h1, Nat.add_mul_mod_self_right, Nat.mod_eq_of_lt (val_lt n hg.lt)]

set_option maxRecDepth 100000 in
set_option maxHeartbeats 1000000 in
/-- nschool.less. -/
theorem less_any (b off b2 o2 n cap cap2 : Nat) (f g : Nat → Nat) (w : World) (r1 : Row w b off n (oct f)) (r2 : Row w b2 o2 n (oct g)) (hf : Byt f) (hg : Byt g) (hn : n ≤ 1099511627776) :
    Calls Taig.prog 54 #[.slice (some ⟨b, off, none⟩) n cap, .slice (some ⟨b2, o2, none⟩) n cap2] w fun e w' => e = .returned (.bool (decide (val f n < val g n))) ∧ Below w.heap.size w w' := by
  obtain ⟨X, HX⟩ : ∃ X, Hid (val f n = X) := ⟨_, rfl⟩
  obtain ⟨Y, HY⟩ : ∃ Y, Hid (val g n = Y) := ⟨_, rfl⟩
  have l1 : dlen X ≤ n := by rw [← unhide HX]; exact dlen_val_le hf n
  have l2 : dlen Y ≤ n := by rw [← unhide HY]; exact dlen_val_le hg n
  have hx : Hid (∀ i, i < n → f i = dig X i) := fun i hi => by rw [← unhide HX]; exact (dig_val hf.lt hi).symm
  have hy : Hid (∀ i, i < n → g i = dig Y i) := fun i hi => by rw [← unhide HY]; exact (dig_val hg.lt hi).symm
  rw [unhide HX, unhide HY]
  have H0 : Hid (X / 256 ^ n = Y / 256 ^ n) := by
    unfold Hid
    rw [Nat.div_eq_of_lt ((dlen_le_iff _ _).1 l1), Nat.div_eq_of_lt ((dlen_le_iff _ _).1 l2)]
  clear HX HY hf hg l1 l2
  go_enter Taig.func54, Taig.ntmps54
  go_wp2
  go_loopg [5] n (fun gl i wr => ∃ (l : Nat), l = gl ∧ l ≤ n ∧ i = .int .i64 ((l : Int) - 1) ∧ Hid (X / 256 ^ l = Y / 256 ^ l) ∧ Below w.heap.size w wr)
  case atStart => exact ⟨n, rfl, Nat.le_refl _, rfl, H0, Below.refl _ _⟩
  case round =>
    obtain ⟨l, rfl, hl, rfl, hv, hbel⟩ := hrel
    rcases Nat.eq_zero_or_pos l with h0 | h0
    · subst h0
      have hXY : X = Y := by have := unhide hv; simpa using this
      have HE : Hid (decide (X < Y) = false) := by unfold Hid; rw [hXY]; simp
      clear hXY
      go_wp2
      go_ret
      exact ⟨by rw [unhide HE]; rfl, hbel⟩
    · obtain ⟨j, rfl⟩ : ∃ j, l = j + 1 := ⟨l - 1, by omega⟩
      have c1 := (r1.keep hbel).cell (i := j) (by omega)
      have c2 := (r2.keep hbel).cell (i := j) (by omega)
      have d1 := dig_lt X j
      have d2 := dig_lt Y j
      simp only [oct_at] at c1 c2
      rw [unhide hx j (by omega)] at c1
      rw [unhide hy j (by omega)] at c2
      rcases Nat.lt_trichotomy (dig X j) (dig Y j) with hd | hd | hd
      · have HE : Hid (decide (X < Y) = true) := decide_eq_true (lt_of_top (unhide hv) hd)
        have e1 : ((dig X j : Int) == (dig Y j : Int)) = false := by simp; omega
        go_wp2
        go_quiet (fail)
        go_wp2
        go_quiet (fail)
        go_wp2
        go_ret
        exact ⟨by rw [unhide HE]; simp, belowN (belowN hbel _) _⟩
      · have hv2 : Hid (X / 256 ^ j = Y / 256 ^ j) := by unfold Hid; rw [div_low X j, div_low Y j, unhide hv, hd]
        rw [hd] at c1
        clear hd hv
        go_wp2
        go_quiet (fail)
        go_wp2
        go_roundg j
        case measure => omega
        case rel => exact ⟨j, rfl, by omega, by go_num, hv2, belowN hbel _⟩
      · have HE : Hid (decide (X < Y) = false) := decide_eq_false (by have := lt_of_top (unhide hv).symm hd; omega)
        have e1 : ((dig X j : Int) == (dig Y j : Int)) = false := by simp; omega
        go_wp2
        go_quiet (fail)
        go_wp2
        go_quiet (fail)
        go_wp2
        go_ret
        exact ⟨by rw [unhide HE]; simp; omega, belowN (belowN hbel _) _⟩

/-- One step of the difference, by digits. -/
theorem tk_step {h f g : Nat → Nat} {k bw o bw' : Nat} (hg : val h k + val g k = val f k + bw * 256 ^ k) (hs : o + bw + g k = f k + 256 * bw') :
    val (upd h k o) (k + 1) + val g (k + 1) = val f (k + 1) + bw' * 256 ^ (k + 1) := by
  rw [val, val_upd_ge h _ (Nat.le_refl _), upd_at, val, val, pow256_succ, ← Nat.mul_assoc, Nat.mul_comm bw' 256]
  have e3 : o * 256 ^ k + bw * 256 ^ k + g k * 256 ^ k = f k * 256 ^ k + 256 * bw' * 256 ^ k := by
    rw [← Nat.add_mul, ← Nat.add_mul, ← Nat.add_mul, hs]
  omega

set_option maxRecDepth 100000 in
set_option maxHeartbeats 1000000 in
/-- nschool.take. -/
theorem tk_any (b off b2 o2 n cap cap2 : Nat) (f g : Nat → Nat) (w : World) (hrow : Row w b off n (oct f)) (hfree : Free w b off n) (r2 : Row w b2 o2 n (oct g)) (hne : b2 ≠ b) (hf : Byt f) (hg : Byt g) (hle : val g n ≤ val f n) (hn : n ≤ 1099511627776) (h0 : 0 < n) :
    Calls Taig.prog 55 #[.slice (some ⟨b, off, none⟩) n cap, .slice (some ⟨b2, o2, none⟩) n cap2] w fun e w' => ∃ h, e = .returned (.tuple #[]) ∧ Byt h ∧ val h n = val f n - val g n ∧ Row w' b off n (oct h) ∧ Wr b off (off + n) w w' := by
  have hbl := hrow.block_lt h0
  have HL := hide hle
  clear hle
  go_enter Taig.func55, Taig.ntmps55
  go_wp2
  go_loopg [4, 5] n (fun gk bv iv wr => ∃ (k bw : Nat) (h : Nat → Nat), gk = n - k ∧ k ≤ n ∧ iv = .int .i64 k ∧ bv = .int .u16 bw ∧ bw ≤ 1 ∧ Byt h ∧ Hid (∀ x, k ≤ x → h x = f x) ∧ Row wr b off n (oct h) ∧ Wr b off (off + n) w wr ∧ Hid (val h k + val g k = val f k + bw * 256 ^ k))
  case atStart => exact ⟨0, 0, f, rfl, Nat.zero_le _, rfl, rfl, by omega, hf, fun _ _ => rfl, hrow, Wr.refl _ _ _ _, by simp [Hid, val]⟩
  case round =>
    obtain ⟨k, bw, h, rfl, hk, rfl, rfl, hbw, hh, hhi, hr, hwr, hval⟩ := hrel
    by_cases hlt : k < n
    · have c1 := hr.cell hlt
      have c2 := (r2.wr hwr (.inl hne)).cell hlt
      have f1 := (hfree.wr hwr hbl) k hlt
      have d1 := hf k
      have d2 := hg k
      have e1 := unhide hhi k (Nat.le_refl _)
      simp only [oct_at] at c1 c2
      rw [e1] at c1
      clear e1
      go_wp2
      go_quiet (fail)
      go_wp2
      go_roundg (n - (k + 1))
      case measure => omega
      case rel => exact ⟨k + 1, (if f k < bw + g k then 1 else 0), upd h k ((f k + 256 - bw - g k) % 256), rfl, by omega, by go_num, int_eq (by simp only [IntKind.wrap_u16]; split <;> omega), by split <;> omega, hh.upd _ _ (Nat.mod_lt _ (by decide)), fun x hx => by rw [upd_ne _ _ (by omega)]; exact unhide hhi x (by omega), (hr.drewN nq).put k _ hlt rfl (by simp only [IntKind.wrap_u16]; omega), (wrN hwr nq).setCell (by omega) (by omega) _, hide (tk_step (unhide hval) (by split <;> omega))⟩
    · have hk' : Hid (k = n) := by unfold Hid; omega
      go_wp2
      go_end0
      refine ⟨h, rfl, hh, ?_, hr, hwr⟩
      have h1 := unhide hval
      rw [unhide hk'] at h1
      have h2 := val_lt n hh.lt
      have h3 := val_lt n hf.lt
      have h4 := unhide HL
      rcases Nat.eq_zero_or_pos bw with e | e
      · subst e; omega
      · have : 1 * 256 ^ n ≤ bw * 256 ^ n := Nat.mul_le_mul_right _ e
        omega

theorem bit8 {d k : Nat} (hd : d < 256) : bits .and .u8 ((d : Int) / 2 ^ k) 1 = ((d / 2 ^ k % 2 : Nat) : Int) := by
  have h1 : d / 2 ^ k < 256 := Nat.lt_of_le_of_lt (Nat.div_le_self _ _) hd
  have := u8_and_nat (d / 2 ^ k) 1 h1 (by decide)
  rw [Nat.and_one_is_mod] at this
  rw [← this]; simp
theorem bit_low {Y k : Nat} (hk : k < 8) : Y % 256 / 2 ^ k % 2 = Y / 2 ^ k % 2 := by
  rcases (by omega : k = 0 ∨ k = 1 ∨ k = 2 ∨ k = 3 ∨ k = 4 ∨ k = 5 ∨ k = 6 ∨ k = 7) with h | h | h | h | h | h | h | h
  all_goals subst h; simp only [Nat.reducePow]; omega
theorem dig_bit (X i : Nat) : dig X (i / 8) / 2 ^ (i % 8) % 2 = X / 2 ^ i % 2 := by
  unfold dig
  rw [bit_low (Nat.mod_lt _ (by decide)), ← two_pow8, Nat.div_div_eq_div_mul, ← Nat.pow_add, show 8 * (i / 8) + i % 8 = i by omega]

set_option maxRecDepth 100000 in
set_option maxHeartbeats 1000000 in
/-- nschool.bit. -/
theorem bit_any (a : Option Addr) (X i : Nat) (w : World) (hs : Sl w a (dlen X) (dig X)) (bx : dlen X ≤ 1099511627776) (hi : i ≤ 1099511627776) :
    Calls Taig.prog 53 #[.slice a (dlen X) (dlen X), .int .i64 i] w fun e w' => e = .returned (.int .u8 (X / 2 ^ i % 2 : Nat)) ∧ w = w' := by
  rcases Nat.lt_or_ge (i / 8) (dlen X) with hlt | hge
  · obtain ⟨b, off, rfl, r⟩ := hs (by omega)
    have c1 := r.cell hlt
    have d1 := dig_lt X (i / 8)
    simp only [oct_at] at c1
    go_enter Taig.func53, Taig.ntmps53
    go_wp2
    go_ret
    exact ⟨congrArg (fun z => Ending.returned (.int .u8 z)) (by rw [bit8 d1]; exact congrArg Int.ofNat (dig_bit X i)), rfl⟩
  · go_enter Taig.func53, Taig.ntmps53
    go_wp2
    go_ret
    refine ⟨?_, rfl⟩
    have : X / 2 ^ i = 0 := Nat.div_eq_of_lt (Nat.lt_of_lt_of_le (lt_pow_dlen X) (by rw [← two_pow8]; exact Nat.pow_le_pow_right (by decide) (by omega)))
    rw [this]; rfl
end Go.Proofs.Ygctai
