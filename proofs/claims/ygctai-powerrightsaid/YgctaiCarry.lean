/-
  nat.Carry.
-/
import Derived.Test.YgctaiTake
import Derived.Test.YgctaiSums
namespace Go.Proofs.Ygctai
open Go.RowKit
set_option linter.unusedVariables false

/-- int64 values. -/
def lng (c : Nat → Nat) : Nat → Value := fun i => .int .i64 (c i)
theorem lng_at (c : Nat → Nat) (i : Nat) : lng c i = .int .i64 (c i) := rfl
theorem upd_lng (f : Nat → Nat) (i v : Nat) : upd (lng f) i (.int .i64 v) = lng (upd f i v) := by
  funext j; unfold upd lng; dsimp only; split <;> rfl
theorem Row.lput {w : World} {b off n : Nat} {f : Nat → Nat} (h : Row w b off n (lng f)) (i v : Nat) {o : Nat} {z : Int} (hi : i < n) (ho : o = off + i) (hz : z = v) : Row (w.setCell ⟨b, o, none⟩ (.int .i64 z)) b off n (lng (upd f i v)) := by
  subst ho; subst hz; rw [← upd_lng]; exact h.setCell hi _
/-- A slice of int64. -/
def S64 (w : World) (a : Option Addr) (n : Nat) (c : Nat → Nat) : Prop := 0 < n → ∃ b off, a = some ⟨b, off, none⟩ ∧ Row w b off n (lng c)

theorem carry_step {g c : Nat → Nat} {n i over t : Nat} (hg : val g i + over * 256 ^ i = csv c (min i n)) (ht : t = over + if i < n then c i else 0) :
    val (upd g i (t % 256)) (i + 1) + (t / 256) * 256 ^ (i + 1) = csv c (min (i + 1) n) := by
  rw [val, val_upd_ge g _ (Nat.le_refl _), upd_at, pow256_succ]
  have e3 : t % 256 * 256 ^ i + t / 256 * (256 * 256 ^ i) = t * 256 ^ i := by
    rw [← Nat.mul_assoc, ← Nat.add_mul]; congr 1; omega
  have e4 : csv c (min (i + 1) n) = csv c (min i n) + (if i < n then c i else 0) * 256 ^ i := by
    by_cases h : i < n
    · rw [if_pos h, Nat.min_eq_left (by omega), Nat.min_eq_left (by omega)]; rfl
    · rw [if_neg h, Nat.min_eq_right (by omega), Nat.min_eq_right (by omega)]; simp
  rw [e4, ← hg, ht, Nat.add_assoc, Nat.add_mul] at *
  omega

theorem csv_lt {c : Nat → Nat} (n : Nat) (h : ∀ i, i < n → c i < 36028797018963968) : csv c n < 256 ^ (n + 8) := by
  have h2 : csv c n ≤ 36028797018963968 * 256 ^ n := by
    unfold csv
    induction n with
    | zero => simp [nsum]
    | succ n ih =>
      rw [nsum, pow256_succ]
      have h1 := ih (fun i hi => h i (by omega))
      have h3 : c n * 256 ^ n ≤ 36028797018963968 * 256 ^ n := Nat.mul_le_mul_right _ (by have := h n (by omega); omega)
      omega
  have h3 : 256 ^ (n + 8) = 18446744073709551616 * 256 ^ n := by rw [Nat.pow_add, Nat.mul_comm]
  have h4 := pow256_pos n
  rw [h3]; omega

theorem carry_end {g : Nat → Nat} {L over V : Nat} (h : val g L + over * 256 ^ L = V) (hV : V < 256 ^ L) : val g L = V := by
  rcases Nat.eq_zero_or_pos over with e | e
  · subst e; omega
  · have : 1 * 256 ^ L ≤ over * 256 ^ L := Nat.mul_le_mul_right _ e
    omega

set_option maxRecDepth 100000 in
set_option maxHeartbeats 2000000 in
/-- nat.Carry. -/
theorem carry_any (a : Option Addr) (n cap : Nat) (c : Nat → Nat) (w : World) (hs : S64 w a n c) (hc : ∀ i, i < n → c i < 36028797018963968) (hn : n ≤ 1099511627776) :
    Calls Taig.prog 92 #[.slice a n cap] w fun e w' => ∃ d, e = .returned (.tuple #[.slice d (dlen (csv c n)) (dlen (csv c n)), .bool true]) ∧ Nt w' w.heap.size d (csv c n) ∧ Below w.heap.size w w' := by
  have hlt := csv_lt n hc
  have hmk : ∀ w, (Instr.makeSlice 23 (.int .i64 ((n : Int) + 8)) (.int .i64 ((n : Int) + 8))).run Taig.prog w = .ok (.slice (some ⟨w.heap.size, 0, none⟩) (n + 8) (n + 8)) (w.alloc (made (.int .u8 0) (n + 8) 5)) := fun w => make23 (n + 8) (by omega) w
  obtain ⟨V, hV⟩ : ∃ V, V = csv c n := ⟨_, rfl⟩
  rw [← hV] at hlt ⊢
  have HV := hide hV
  have HC := hide hc
  clear hV hc
  go_enter Taig.func92, Taig.ntmps92
  go_wp2
  go_loop [4] (fun i => ∃ k : Nat, k ≤ n ∧ i = .int .i64 k) (fun i => n - (intOf i).toNat)
  case atStart => exact ⟨0, Nat.zero_le _, rfl⟩
  case round =>
    obtain ⟨k, hk, rfl⟩ := hrel
    by_cases hkl : k < n
    · obtain ⟨b, o, rfl, r⟩ := hs (by omega)
      have c1 := r.cell hkl
      have hb := unhide HC k hkl
      simp only [lng_at] at c1
      go_wp2
      go_round
      case rel => exact ⟨k + 1, by omega, by go_num⟩
      case measure => simp [intOf]; omega
    · go_wp2
      go_loopg [6, 7] (n + 8) (fun gk ov iv wr => ∃ (i over : Nat) (g : Nat → Nat), gk = n + 8 - i ∧ i ≤ n + 8 ∧ iv = .int .i64 i ∧ ov = .int .i64 over ∧ over < 36028797018963968 ∧ Byt g ∧ Row wr w.heap.size 0 (n + 8) (oct g) ∧ Free wr w.heap.size 0 (n + 8) ∧ Below w.heap.size w wr ∧ Hid (val g i + over * 256 ^ i = csv c (min i n)))
      case atStart => exact ⟨0, 0, fun _ => 0, rfl, Nat.zero_le _, rfl, rfl, by omega, byt_zero, row_made _ _ _ _, free_made _ _ _ _, below_alloc _ _, by simp [Hid, val, csv, nsum]⟩
      case round =>
        obtain ⟨i, over, g, rfl, hi, rfl, rfl, hov, hg, hrow, hfree, hbel, hval⟩ := hrel
        by_cases hil : i < n + 8
        · have c2 := hrow.cell (i := i) hil
          have f2 := hfree i hil
          simp only [Nat.zero_add, oct_at] at c2 f2
          by_cases hin : i < n
          · obtain ⟨b, o, rfl, r⟩ := hs (by omega)
            have c1 := (r.keep hbel).cell hin
            have hb := unhide HC i hin
            simp only [lng_at] at c1
            go_wp2
            go_roundg (n + 8 - (i + 1))
            case measure => omega
            case rel => exact ⟨i + 1, (over + c i) / 256, upd g i ((over + c i) % 256), rfl, by omega, by go_num, int_eq (by omega), by omega, hg.upd _ _ (Nat.mod_lt _ (by decide)), hrow.put i _ hil (by omega) (by omega), hfree.setCell _ _, hbel.setCell (Nat.le_refl _) _, hide (carry_step (unhide hval) (by rw [if_pos hin]))⟩
          · go_wp2
            go_roundg (n + 8 - (i + 1))
            case measure => omega
            case rel => exact ⟨i + 1, over / 256, upd g i (over % 256), rfl, by omega, by go_num, int_eq (by omega), by omega, hg.upd _ _ (Nat.mod_lt _ (by decide)), hrow.put i _ hil (by omega) (by omega), hfree.setCell _ _, hbel.setCell (Nat.le_refl _) _, hide (carry_step (unhide hval) (by rw [if_neg hin, Nat.add_zero]))⟩
        · have hi8 : i = n + 8 := by omega
          have hv : val g (n + 8) = V := by
            have h := unhide hval
            rw [hi8, Nat.min_eq_right (by omega), ← unhide HV] at h
            exact carry_end h hlt
          have K := trim_any _ (n + 8) (n + 8) g wr (fun _ => ⟨_, _, rfl, hrow⟩) hg (Nat.le_refl _) (by omega)
          have hnt := nt_of_row hg (Nat.le_refl _) hrow hfree
          rw [hv] at K hnt
          have HK := hide K
          clear K hv hval hi8
          go_wp2_with fail
          refine (unhide HK).mono ?_
          rintro e w2 ⟨rfl, rfl⟩
          go_wp2
          go_ret2
          exact ⟨_, rfl, hnt, hbel⟩
end Go.Proofs.Ygctai
