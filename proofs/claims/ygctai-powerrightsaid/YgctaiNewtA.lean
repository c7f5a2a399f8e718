/-
  newton.down, newton.up, newton.top.
-/
import Derived.Test.YgctaiSub
import Derived.Test.YgctaiDecS
namespace Go.Proofs.Ygctai
open Go.RowKit
set_option linter.unusedVariables false

/-! ### plain -/
theorem dlen_div (X k : Nat) : dlen (X / 256 ^ k) = dlen X - k := by
  apply Nat.le_antisymm
  · rw [dlen_le_iff, Nat.div_lt_iff_lt_mul (pow256_pos k), ← Nat.pow_add]
    exact Nat.lt_of_lt_of_le (lt_pow_dlen X) (pow256_mono (by omega))
  · rcases Nat.lt_or_ge k (dlen X) with h | h
    · have h1 := (lt_dlen_iff X (dlen X - 1)).1 (by omega)
      have h2 : 256 ^ (dlen X - 1 - k) ≤ X / 256 ^ k := by
        rw [Nat.le_div_iff_mul_le (pow256_pos k), ← Nat.pow_add, show dlen X - 1 - k + k = dlen X - 1 by omega]; exact h1
      have := (lt_dlen_iff (X / 256 ^ k) (dlen X - 1 - k)).2 h2
      omega
    · omega
theorem dig_div (X k i : Nat) : dig (X / 256 ^ k) i = dig X (k + i) := by
  unfold dig; rw [Nat.div_div_eq_div_mul, ← Nat.pow_add]
theorem dlen_mul_pow {X : Nat} (k : Nat) (h : 0 < X) : dlen (X * 256 ^ k) = k + dlen X := by
  have h1 := dlen_div (X * 256 ^ k) k
  rw [Nat.mul_div_cancel _ (pow256_pos k)] at h1
  have h2 := dlen_pos h
  omega
theorem dig_mul_pow (X k i : Nat) : dig (X * 256 ^ k) (k + i) = dig X i := by
  have := dig_div (X * 256 ^ k) k i
  rw [Nat.mul_div_cancel _ (pow256_pos k)] at this
  exact this.symm
theorem dig_mul_low (X : Nat) {k i : Nat} (h : i < k) : dig (X * 256 ^ k) i = 0 := by
  unfold dig
  rw [show k = i + 1 + (k - i - 1) by omega, Nat.pow_add, Nat.pow_succ, Nat.mul_assoc, Nat.mul_left_comm, Nat.mul_div_cancel_left _ (pow256_pos i), ← Nat.mul_assoc, Nat.mul_comm X 256, Nat.mul_assoc, Nat.mul_mod_right]

/-- A natural's digits from k on. -/
theorem Nt.down {w : World} {B : Nat} {a : Option Addr} {X k : Nat} (h : Nt w B a X) : (dlen X ≤ k → X / 256 ^ k = 0) ∧ (k < dlen X → ∃ b off, a = some ⟨b, off, none⟩ ∧ Nt w B (some ⟨b, off + k, none⟩) (X / 256 ^ k)) := by
  refine ⟨fun hk => Nat.div_eq_of_lt (Nat.lt_of_lt_of_le (lt_pow_dlen X) (pow256_mono hk)), fun hk => ?_⟩
  have hX : 0 < X := by
    rcases Nat.eq_zero_or_pos X with e | e
    · subst e; simp [dlen_zero] at hk
    · exact e
  obtain ⟨b, off, rfl, hB, r, f⟩ := h.2 hX
  refine ⟨b, off, rfl, fun h0 => ?_, fun _ => ⟨b, off + k, rfl, hB, ?_, ?_⟩⟩
  · have := dlen_div X k
    rw [h0, dlen_zero] at this; omega
  · rw [dlen_div]
    exact (r.shift (by omega)).congr fun i hi => by rw [oct_at, oct_at, dig_div]
  · rw [dlen_div]; exact f.shift (by omega)

set_option maxRecDepth 100000 in
set_option maxHeartbeats 1000000 in
/-- newton.down. -/
theorem down_any (B : Nat) (a : Option Addr) (X k : Nat) (w : World) (h : Nt w B a X) (bx : dlen X ≤ 140737488355328) (bk : k ≤ 140737488355328) :
    Calls Taig.prog 85 #[.slice a (dlen X) (dlen X), .int .i64 k] w fun e w' => ∃ c, e = .returned (.slice c (dlen (X / 256 ^ k)) (dlen (X / 256 ^ k))) ∧ Nt w B c (X / 256 ^ k) ∧ w = w' := by
  obtain ⟨h1, h2⟩ := h.down (k := k)
  rcases Nat.lt_or_ge k (dlen X) with hk | hk
  · obtain ⟨b, off, rfl, hn⟩ := h2 hk
    have hl := dlen_div X k
    have HL : Hid (dlen (X / 256 ^ k) = dlen X - k) := hl
    clear h1 h2 h hl
    go_enter Taig.func85, Taig.ntmps85
    go_wp2
    go_ret
    exact ⟨_, by rw [unhide HL]; rfl, hn, rfl⟩
  · have h3 := hide (h1 hk)
    clear h1 h2 h
    go_enter Taig.func85, Taig.ntmps85
    go_wp2
    go_ret
    exact ⟨none, by rw [unhide h3]; rfl, by rw [unhide h3]; exact Nt.nil _ _, rfl⟩

set_option maxRecDepth 100000 in
set_option maxHeartbeats 1000000 in
/-- newton.up. -/
theorem up_any (a : Option Addr) (X k : Nat) (w : World) (h : Sl w a (dlen X) (dig X)) (bx : dlen X ≤ 1099511627776) (bk : k ≤ 1099511627776) :
    Calls Taig.prog 88 #[.slice a (dlen X) (dlen X), .int .i64 k] w fun e w' => ∃ c, e = .returned (.slice c (dlen (X * 256 ^ k)) (dlen (X * 256 ^ k))) ∧ Nt w' w.heap.size c (X * 256 ^ k) ∧ Below w.heap.size w w' := by
  rcases Nat.eq_zero_or_pos X with hX | hX
  · subst hX
    rw [Nat.zero_mul, dlen_zero]
    go_enter Taig.func88, Taig.ntmps88
    go_wp2
    go_ret
    exact ⟨none, rfl, Nt.nil _ _, Below.refl _ _⟩
  have hd := dlen_pos hX
  have HL := hide (dlen_mul_pow k hX)
  have e1 : ((dlen X : Int) == 0) = false := by simp; omega
  have hmk : ∀ w, (Instr.makeSlice 23 (.int .i64 ((k : Int) + (dlen X : Int))) (.int .i64 ((k : Int) + (dlen X : Int)))).run Taig.prog w = .ok (.slice (some ⟨w.heap.size, 0, none⟩) (k + dlen X) (k + dlen X)) (w.alloc (made (.int .u8 0) (k + dlen X) 5)) := fun w => make23 (k + dlen X) (by omega) w
  have hba := below_alloc w (made (.int .u8 0) (k + dlen X) 5)
  have hrow := row_made w (.int .u8 0) (k + dlen X) 5
  have hfree := free_made w (.int .u8 0) (k + dlen X) 5
  have hr2 : Row (w.alloc (made (.int .u8 0) (k + dlen X) 5)) w.heap.size (0 + k) (dlen X) (oct (fun _ => 0)) := hrow.shift (m := dlen X) (k := k) (by omega)
  have hf2 := hfree.shift (m := dlen X) (k := k) (by omega)
  obtain ⟨w2, hrun, hwr, hrow2⟩ := copy_oct 23 23 3 Taig.underlying23 (w.alloc (made (.int .u8 0) (k + dlen X) 5)) w.heap.size (0 + k) (dlen X) (dlen X) a (dlen X) (dlen X) (dig X) (fun _ => 0) hr2 hf2 (h.keep hba)
  rw [Nat.min_self] at hrun hwr hrow2
  rw [Nat.zero_add] at hrun hwr hrow2
  have hlow : Row w2 w.heap.size 0 k (oct (fun _ => 0)) := (hrow.sub (m := k) (by omega)).wr hwr (by omega)
  have hall : Row w2 w.heap.size 0 (k + dlen X) (oct (dig (X * 256 ^ k))) := fun i hi => by
    rcases Nat.lt_or_ge i k with h1 | h1
    · rw [hlow i h1, oct_at, oct_at, dig_mul_low X h1]
    · obtain ⟨j, rfl⟩ : ∃ j, i = k + j := ⟨i - k, by omega⟩
      have := hrow2 j (by omega)
      rw [oct_at, if_pos (by omega)] at this
      rw [Nat.zero_add, this, oct_at, dig_mul_pow]
  have hfr : Free w2 w.heap.size 0 (k + dlen X) := hfree.wr hwr (by simp)
  have hbel : Below w.heap.size w w2 := hwr.below hba (Nat.le_refl _) (by simp)
  have hpos : 0 < X * 256 ^ k := Nat.mul_pos hX (pow256_pos k)
  have hnt : Nt w2 w.heap.size (some ⟨w.heap.size, 0, none⟩) (X * 256 ^ k) := ⟨fun h0 => by omega, fun _ => ⟨_, _, rfl, Nat.le_refl _, by rw [unhide HL]; exact hall, by rw [unhide HL]; exact hfr⟩⟩
  clear hr2 hf2 hrow hfree hrow2 hlow hall hfr h hpos
  go_enter Taig.func88, Taig.ntmps88
  go_wp2
  go_ret
  exact ⟨_, by rw [unhide HL]; rfl, hnt, hbel⟩

/-! ### top -/
/-- The k highest digits, zeros below. -/
def tp (X k : Nat) : Nat := X * 256 ^ k / 256 ^ dlen X
theorem tp_zero (X : Nat) : tp X 0 = 0 := by unfold tp; rw [Nat.pow_zero, Nat.mul_one]; exact Nat.div_eq_of_lt (lt_pow_dlen X)
theorem tp_lt (X k : Nat) : tp X k < 256 ^ k := by
  unfold tp
  rw [Nat.div_lt_iff_lt_mul (pow256_pos _), Nat.mul_comm]
  exact Nat.mul_lt_mul_of_pos_left (lt_pow_dlen X) (pow256_pos k)
theorem tp_in {X k : Nat} (h : k < dlen X) : tp X (k + 1) = tp X k * 256 + dig X (dlen X - 1 - k) := by
  have e : ∀ j, j ≤ dlen X → tp X j = X / 256 ^ (dlen X - j) := fun j hj => by
    unfold tp
    obtain ⟨m, hm⟩ : ∃ m, dlen X = m + j := ⟨dlen X - j, by omega⟩
    rw [hm, Nat.add_sub_cancel, Nat.pow_add, Nat.mul_div_mul_right _ _ (pow256_pos j)]
  rw [e _ h, e _ (by omega), div_low X (dlen X - (k + 1)), show dlen X - (k + 1) + 1 = dlen X - k by omega, show dlen X - (k + 1) = dlen X - 1 - k by omega, Nat.mul_comm]
theorem tp_out {X k : Nat} (h : dlen X ≤ k) : tp X (k + 1) = tp X k * 256 := by
  have e : ∀ j, dlen X ≤ j → tp X j = X * 256 ^ (j - dlen X) := fun j hj => by
    unfold tp
    obtain ⟨m, hm⟩ : ∃ m, j = m + dlen X := ⟨j - dlen X, by omega⟩
    rw [hm, Nat.add_sub_cancel, Nat.pow_add, ← Nat.mul_assoc, Nat.mul_div_cancel _ (pow256_pos _)]
  rw [e _ h, e _ (by omega), show k + 1 - dlen X = (k - dlen X) + 1 by omega, Nat.pow_succ, Nat.mul_assoc]
theorem pow256_7 {i : Nat} (h : i < 8) : 256 ^ i ≤ 72057594037927936 := by
  have := pow256_mono (show i ≤ 7 by omega)
  simpa using this

theorem or64 {r d : Nat} (hr : r < 72057594037927936) (hd : d < 256) : bits .or .u64 ((r : Int) * 256) (d : Int) = (r : Int) * 256 + d := by
  have := u64_or_nat (r * 256) d (by omega) (by omega)
  rw [or_low hd] at this
  simpa using this

set_option maxRecDepth 100000 in
set_option maxHeartbeats 1000000 in
/-- newton.top. -/
theorem top_any (a : Option Addr) (X k : Nat) (w : World) (h : Sl w a (dlen X) (dig X)) (bx : dlen X ≤ 1099511627776) (bk : k ≤ 8) :
    Calls Taig.prog 87 #[.slice a (dlen X) (dlen X), .int .i64 k] w fun e w' => e = .returned (.int .u64 (tp X k)) ∧ w = w' := by
  go_enter Taig.func87, Taig.ntmps87
  go_wp2
  go_loopg [5, 6] k (fun gk vv iv wr => ∃ (i v : Nat), gk = k - i ∧ i ≤ k ∧ iv = .int .i64 i ∧ vv = .int .u64 v ∧ Hid (v = tp X i) ∧ w = wr)
  case atStart => exact ⟨0, 0, rfl, by omega, rfl, rfl, (tp_zero X).symm, rfl⟩
  case round =>
    obtain ⟨i, v, rfl, hi, rfl, rfl, hv, rfl⟩ := hrel
    by_cases hlt : i < k
    · have hv1 : v < 72057594037927936 := by
        have h1 := tp_lt X i
        have h2 := pow256_7 (i := i) (by omega)
        have := unhide hv
        omega
      by_cases hin : i < dlen X
      · obtain ⟨b, off, rfl, r⟩ := h (by omega)
        have c1 := r.cell (i := dlen X - 1 - i) (by omega)
        have d1 := dig_lt X (dlen X - 1 - i)
        have o1 := or64 hv1 d1
        have hv2 := hide (tp_in hin)
        simp only [oct_at] at c1
        obtain ⟨j, HJ⟩ : ∃ j, Hid (dlen X - 1 - i = j) := ⟨_, rfl⟩
        have hj2 : (dlen X : Int) - 1 - (i : Int) = (j : Int) := by have := unhide HJ; omega
        have hj3 : j < dlen X := by have := unhide HJ; omega
        rw [unhide HJ] at c1 d1 o1 hv2
        have hv3 := hv1
        go_wp2
        go_roundg (k - (i + 1))
        case measure => omega
        case rel => exact ⟨i + 1, v * 256 + dig X j, rfl, by omega, by go_num, int_eq (by omega), by unfold Hid; rw [unhide hv2, unhide hv], rfl⟩
      · have hv2 := hide (tp_out (X := X) (k := i) (by omega))
        go_wp2
        go_roundg (k - (i + 1))
        case measure => omega
        case rel => exact ⟨i + 1, v * 256, rfl, by omega, by go_num, int_eq (by omega), by unfold Hid; rw [unhide hv2, unhide hv], rfl⟩
    · have hik : Hid (i = k) := by unfold Hid; omega
      go_wp2
      go_ret
      exact ⟨by rw [← unhide hik, ← unhide hv]; rfl, rfl⟩
end Go.Proofs.Ygctai
