/-
  calc: timesSmall.
-/
import Derived.Test.YgctaiQR
namespace Go.Proofs.Ygctai
open Go.RowKit
set_option linter.unusedVariables false

/-- The digits so far and the carry. -/
structure Ts (f : Nat → Nat) (la m i cy : Nat) (g : Nat → Nat) : Prop where
  byt : Byt g
  cyl : cy < 65536
  eq : val g i + cy * 256 ^ i = val f (min i la) * m
  low : la ≤ i → 256 ^ (i - 1) ≤ val f la * m
  hi : i ≤ la + 2
theorem ts_nil {f : Nat → Nat} {la m : Nat} (h0 : 0 < la) : Ts f la m 0 0 (fun _ => 0) := ⟨byt_zero, by decide, by simp [val], fun h => by omega, by omega⟩
theorem Ts.room {f : Nat → Nat} {la m i cy : Nat} {g : Nat → Nat} (h : Ts f la m i cy g) (hm : m < 65536) (hf : Byt f) (hr : i < la ∨ 0 < cy) : i < la + 2 := by
  rcases Nat.lt_or_ge i la with h1 | h1
  · omega
  · have hc : 0 < cy := by omega
    have e := h.eq
    rw [Nat.min_eq_right h1] at e
    have h2 := val_lt la hf.lt
    have h3 : 256 ^ i ≤ cy * 256 ^ i := Nat.le_mul_of_pos_left _ hc
    have h4 : val f la * m < 256 ^ la * 65536 := Nat.mul_lt_mul'' h2 hm
    have h5 : 256 ^ la * 65536 = 256 ^ (la + 2) := by rw [Nat.pow_add]
    have h6 : 256 ^ i < 256 ^ (la + 2) := by omega
    exact (Nat.pow_lt_pow_iff_right (by decide)).1 h6
/-- A step: c is the sum. -/
theorem Ts.step {f : Nat → Nat} {la m i cy c : Nat} {g : Nat → Nat} (h : Ts f la m i cy g) (h0 : 0 < m) (hm : m < 65536) (hf : Byt f) (hV : 256 ^ (la - 1) ≤ val f la) (hr : i < la ∨ 0 < cy) (hc : c = if i < la then cy + f i * m else cy) :
    c < 16777216 ∧ Ts f la m (i + 1) (c / 256) (upd g i (c % 256)) := by
  have hroom := h.room hm hf hr
  have hcl := h.cyl
  have e := h.eq
  have hlt : c < 16777216 := by
    subst hc
    split
    · have := hf i
      have : f i * m ≤ 255 * m := Nat.mul_le_mul_right _ (by omega)
      omega
    · omega
  have hd : c % 256 + 256 * (c / 256) = c := Nat.mod_add_div c 256
  have e2 : val (upd g i (c % 256)) (i + 1) = val g i + c % 256 * 256 ^ i := by
    show val (upd g i (c % 256)) i + upd g i (c % 256) i * 256 ^ i = _
    rw [upd_at, val_upd_ge _ _ (Nat.le_refl _)]
  refine ⟨hlt, ⟨h.byt.upd i _ (Nat.mod_lt _ (by decide)), by omega, ?_, fun hl => ?_, by omega⟩⟩
  · rw [e2, Nat.pow_succ]
    have e3 : val g i + c % 256 * 256 ^ i + c / 256 * (256 ^ i * 256) = val g i + c * 256 ^ i := by
      conv => rhs; rw [← hd]
      rw [Nat.add_mul, Nat.mul_comm (256 ^ i) 256, ← Nat.mul_assoc, Nat.mul_comm (c / 256) 256, Nat.add_assoc]
    rw [e3]
    subst hc
    by_cases h1 : i < la
    · rw [if_pos h1, Nat.min_eq_left (by omega), Nat.add_mul, ← Nat.add_assoc, e, Nat.min_eq_left (by omega)]
      show val f i * m + f i * m * 256 ^ i = (val f i + f i * 256 ^ i) * m
      rw [Nat.add_mul, Nat.mul_right_comm]
    · rw [if_neg h1, e, Nat.min_eq_right (by omega), Nat.min_eq_right (by omega)]
  · rw [Nat.add_sub_cancel]
    rcases Nat.lt_or_ge i la with h1 | h1
    · have : i = la - 1 := by omega
      rw [this]
      exact Nat.le_trans hV (Nat.le_mul_of_pos_right _ h0)
    · have hc0 : 0 < cy := by omega
      rw [Nat.min_eq_right h1] at e
      have h3 : 256 ^ i ≤ cy * 256 ^ i := Nat.le_mul_of_pos_left _ hc0
      omega
theorem Ts.fin {f : Nat → Nat} {la m i : Nat} {g : Nat → Nat} (h : Ts f la m i 0 g) (hi : la ≤ i) (h0 : 0 < la) : val g i = val f la * m ∧ dlen (val f la * m) = i := by
  have e := h.eq
  rw [Nat.zero_mul, Nat.add_zero, Nat.min_eq_right hi] at e
  refine ⟨e, Nat.le_antisymm ?_ ?_⟩
  · rw [← e]; exact dlen_val_le h.byt i
  · have := (lt_dlen_iff _ (i - 1)).2 (h.low hi)
    omega

set_option maxRecDepth 100000 in
set_option maxHeartbeats 1000000 in
theorem timesSmall_any (a : Option Addr) (la ca m : Nat) (f : Nat → Nat) (w : World) (hs : Sl w a la f) (hf : Byt f) (h0 : 0 < la) (h1 : la ≤ 16) (hV : 256 ^ (la - 1) ≤ val f la) (hm0 : 0 < m) (hm : m < 65536) :
    Calls Taig.prog 69 #[.slice a la ca, .int .u32 (m : Int)] w fun e w' => ∃ b g, e = .returned (.slice (some ⟨b, 0, none⟩) (dlen (val f la * m)) (la + 2)) ∧ w.heap.size ≤ b ∧ b < w'.heap.size ∧ Row w' b 0 (dlen (val f la * m)) (oct g) ∧ Byt g ∧ val g (dlen (val f la * m)) = val f la * m ∧ dlen (val f la * m) ≤ la + 2 ∧ Below w.heap.size w w' := by
  have hmk : (Instr.makeSlice 22 (.int .i64 0) (.int .i64 ((la : Int) + 2))).run Taig.prog w = .ok (.slice (some ⟨w.heap.size, 0, none⟩) 0 (la + 2)) (w.alloc (made (.int .u8 0) (la + 2) 5)) := make22cap (la + 2) (by omega) w
  have r0 := row_made w (.int .u8 0) (la + 2) 5
  have f0 := free_made w (.int .u8 0) (la + 2) 5
  have b0 := below_alloc w (made (.int .u8 0) (la + 2) 5)
  have hz : w.heap.size < (w.alloc (made (.int .u8 0) (la + 2) 5)).heap.size := by simp
  have HV := hide hV
  have HS := hide hs
  clear hV hs
  go_enter Taig.func69, Taig.ntmps69
  go_wp2
  go_loopg [5, 6, 7] (la + 2) (fun gk ov cv iv wr => ∃ (i cy : Nat) (g : Nat → Nat), gk = la + 2 - i ∧ ov = .slice (some ⟨w.heap.size, 0, none⟩) i (la + 2) ∧ cv = .int .u32 (cy : Int) ∧ iv = .int .i64 (i : Int) ∧ Hid (Ts f la m i cy g) ∧ Hid (Row wr w.heap.size 0 (la + 2) (oct g)) ∧ Hid (Free wr w.heap.size 0 (la + 2)) ∧ Below w.heap.size w wr ∧ w.heap.size < wr.heap.size)
  case atStart => exact ⟨0, 0, fun _ => 0, rfl, rfl, rfl, rfl, ts_nil h0, r0, f0, b0, hz⟩
  case round =>
    obtain ⟨i, cy, g, rfl, rfl, rfl, rfl, ht, hr, hfr, hb, hz2⟩ := hrel
    by_cases c1 : i < la ∨ 0 < cy
    · have hroom := (unhide ht).room hm hf c1
      have c3 : i + 1 ≤ la + 2 := by omega
      have cell := unhide hr i (by omega)
      rw [Nat.zero_add] at cell
      have fz := (unhide hfr).all (by omega) i
      by_cases c2 : i < la
      · obtain ⟨sb, so, e, r⟩ := unhide HS h0
        obtain ⟨hlt, hts⟩ := (unhide ht).step (c := cy + f i * m) hm0 hm hf (unhide HV) c1 (by rw [if_pos c2])
        have ci := (r.keep hb) i c2
        rw [oct_at] at ci
        subst e
        have HTS := hide hts
        have fi := hf i
        have cyl := (unhide ht).cyl
        have mu : IntKind.u32.wrap ((f i : Int) * (m : Int)) = ((f i * m : Nat) : Int) := by
          rw [← Int.natCast_mul, IntKind.wrap_u32]; omega
        clear hts r
        generalize f i * m = fm at *
        go_wp2
        have ht' := unhide HTS
        clear HTS
        go_roundg (la + 2 - (i + 1))
        case measure => omega
        case rel =>
          refine ⟨i + 1, (cy + fm) / 256, upd g i ((cy + fm) % 256), rfl, rfl, int_eq (by omega), rfl, ht', ((unhide hr).put i _ (by omega) (by omega) (by omega)).alloc _, ((unhide hfr).setCell _ _).below (below_alloc _ _) (by simpa using hz2), (hb.setCell (Nat.le_refl _) _).alloc (by simp; omega) _, by simp; omega⟩
      · have c4 : 0 < cy := by omega
        obtain ⟨hlt, hts⟩ := (unhide ht).step (c := cy) hm0 hm hf (unhide HV) c1 (by rw [if_neg c2])
        have HTS := hide hts
        have cyl := (unhide ht).cyl
        clear hts c1
        go_wp2
        have ht' := unhide HTS
        clear HTS
        go_roundg (la + 2 - (i + 1))
        case measure => omega
        case rel =>
          refine ⟨i + 1, cy / 256, upd g i (cy % 256), rfl, rfl, int_eq (by omega), rfl, ht', ((unhide hr).put i _ (by omega) (by omega) (by omega)).alloc _, ((unhide hfr).setCell _ _).below (below_alloc _ _) (by simpa using hz2), (hb.setCell (Nat.le_refl _) _).alloc (by simp; omega) _, by simp; omega⟩
    · have c2 : ¬ i < la := by omega
      obtain rfl : cy = 0 := by omega
      clear c1
      go_wp2
      go_ret
      obtain ⟨e1, e2⟩ := (unhide ht).fin (by omega) h0
      rw [e2]
      have := (unhide ht).hi
      exact ⟨_, g, rfl, Nat.le_refl _, hz2, (unhide hr).sub this, (unhide ht).byt, e1, this, hb⟩
end Go.Proofs.Ygctai
