/-
  nlong.appendChunk.
-/
import Derived.Test.YgctaiDecN
namespace Go.Proofs.Ygctai
open Go.RowKit
set_option linter.unusedVariables false

set_option maxRecDepth 100000 in
set_option maxHeartbeats 2000000 in
/-- nlong.appendChunk. -/
theorem nlAppendChunk_any (T m cap X V : Nat) (t : Nat → Nat) (w : World) (hrow : Row w T 0 cap (oct t)) (hfree : Free w T 0 cap) (ht : Byt t) (htx : Txt t m V) (hm : m + 16 ≤ cap) (hcap : cap ≤ 1048576) (hX : X < 10000000000000000) :
    Calls Taig.prog 81 #[.slice (some ⟨T, 0, none⟩) m cap, .int .u64 X] w fun e w' => ∃ m' t', e = .returned (.slice (some ⟨T, 0, none⟩) m' cap) ∧ Row w' T 0 cap (oct t') ∧ Byt t' ∧ Txt t' m' (V * 10000000000000000 + X) ∧ m' ≤ m + 16 ∧ Wr T 0 cap w w' := by
  have hbl := hrow.block_lt (by omega)
  go_enter Taig.func81, Taig.ntmps81
  go_wp2
  go_loopg [0, 5] 16 (fun gk tv pv wr => ∃ (j m' P : Nat) (t' : Nat → Nat), gk = 16 - j ∧ j ≤ 16 ∧ Hid (16 ≤ j → P = 0) ∧ tv = .slice (some ⟨T, 0, none⟩) m' cap ∧ pv = .int .u64 P ∧ P ≤ 1000000000000000 ∧ Hid (j < 16 → P = 10 ^ (15 - j)) ∧ m' ≤ m + j ∧ Byt t' ∧ Hid (Txt t' m' (V * 10 ^ j + X / 10 ^ (16 - j))) ∧ Row wr T 0 cap (oct t') ∧ Free wr T 0 cap ∧ Wr T 0 cap w wr)
  case atStart => exact ⟨0, m, 1000000000000000, t, rfl, by omega, fun h => absurd h (by omega), rfl, rfl, Nat.le_refl _, fun _ => rfl, by omega, ht, by
    unfold Hid; rw [Nat.pow_zero, Nat.mul_one, Nat.div_eq_of_lt (by simpa using hX), Nat.add_zero]; exact htx, hrow, hfree, Wr.refl _ _ _ _⟩
  case round =>
    obtain ⟨j, m', P, t', rfl, hj, hPz, rfl, rfl, hP1, hP, hm', ht', htx', hr, hf, hwr⟩ := hrel
    have sw := hwr.size
    by_cases hlt : j < 16
    · have hP2 := unhide hP hlt
      have hP0 : 0 < P := by rw [hP2]; exact Nat.pow_pos (by decide)
      obtain ⟨Y, HY⟩ : ∃ Y, Hid (X / P = Y) := ⟨_, rfl⟩
      have q1 : IntKind.u64.wrap ((X : Int) / (P : Int)) = (Y : Int) := by rw [← unhide HY]; exact quo64 (by omega)
      have e0 : ((P : Int) == 0) = false := by simp; omega
      have hXP : X / P ≤ X := Nat.div_le_self _ _
      obtain ⟨d, HDD⟩ : ∃ d, Hid (X / P % 10 = d) := ⟨_, rfl⟩
      have q3 : (Y : Int).tmod 10 = (d : Int) := by rw [Int.tmod_eq_emod_of_nonneg (by omega), ← unhide HDD, unhide HY]; omega
      have hd10 : d < 10 := by rw [← unhide HDD]; exact Nat.mod_lt _ (by decide)
      have q4 : (d : Int) % 256 = (d : Int) := by omega
      have HV : Hid (V * 10 ^ (j + 1) + X / 10 ^ (16 - (j + 1)) = 10 * (V * 10 ^ j + X / 10 ^ (16 - j)) + d) := by
        have h1 := ten_step X (15 - j)
        rw [← hP2, unhide HDD, show 15 - j + 1 = 16 - j by omega] at h1
        unfold Hid
        rw [show 16 - (j + 1) = 15 - j by omega, ← hP2, h1, Nat.pow_succ, Nat.mul_add, ← Nat.mul_assoc, Nat.mul_comm _ 10, Nat.add_assoc]
      have HP' : Hid (j + 1 < 16 → P / 10 = 10 ^ (15 - (j + 1))) := fun h => by
        rw [hP2, show 15 - j = (15 - (j + 1)) + 1 by omega, Nat.pow_succ, Nat.mul_div_cancel _ (by decide)]
      have hPd : P / 10 ≤ 1000000000000000 := by omega
      have HPz : Hid (16 ≤ j + 1 → P / 10 = 0) := fun h => by
        rw [hP2, show 15 - j = 0 by omega]
      clear hP2
      have c1 := hr.cell (i := m') (by omega)
      have f1 := hf m' (by omega)
      have hbT := hr.block_lt (by omega : 0 < cap)
      simp only [Nat.zero_add, oct_at] at c1 f1
      by_cases hput : d ≠ 0 ∨ 0 < m'
      · have HT2 := hide (txt_put (unhide htx') hd10 hput)
        rw [← unhide HV] at HT2
        clear htx' HV
        by_cases hd0 : d = 0
        · have hm0 : 0 < m' := by omega
          have b1 : ((d : Int) == 0) = true := by simp; omega
          have b2 : ((d : Int) != 0) = false := by simp; omega
          clear hd0 hput
          go_wp2
          go_roundg (16 - (j + 1))
          case measure => omega
          case rel => exact ⟨j + 1, m' + 1, P / 10, upd t' m' (48 + d), rfl, by omega, HPz, rfl, int_eq (by omega), hPd, HP', by omega, ht'.upd _ _ (by omega), HT2, (hr.put m' (48 + d) (by omega) (Nat.zero_add _).symm (by omega)).alloc _, (hf.setCell _ _).below (below_alloc _ _) (by simp; exact hbT), (hwr.setCell (Nat.zero_le _) (by omega) _).trans (Wr.of_below (below_alloc _ _) (by simp; exact hbT))⟩
        · have b1 : ((d : Int) == 0) = false := by simp; omega
          have b2 : ((d : Int) != 0) = true := by simp; omega
          clear hput
          go_wp2
          go_roundg (16 - (j + 1))
          case measure => omega
          case rel => exact ⟨j + 1, m' + 1, P / 10, upd t' m' (48 + d), rfl, by omega, HPz, rfl, int_eq (by omega), hPd, HP', by omega, ht'.upd _ _ (by omega), HT2, (hr.put m' (48 + d) (by omega) (Nat.zero_add _).symm (by omega)).alloc _, (hf.setCell _ _).below (below_alloc _ _) (by simp; exact hbT), (hwr.setCell (Nat.zero_le _) (by omega) _).trans (Wr.of_below (below_alloc _ _) (by simp; exact hbT))⟩
      · have HT2 : Hid (Txt t' m' (V * 10 ^ (j + 1) + X / 10 ^ (16 - (j + 1)))) := by
          have h1 := unhide htx'
          have hm0 : m' = 0 := by omega
          rw [hm0] at h1
          have h2 := txt_zero h1
          rw [h2] at h1
          unfold Hid
          rw [unhide HV, h2, hm0, show d = 0 by omega]
          exact h1
        have hm0 : m' ≤ 0 := by omega
        have b1 : ((d : Int) == 0) = true := by simp; omega
        have b2 : ((d : Int) != 0) = false := by simp; omega
        clear hput htx' HV
        go_wp2
        go_roundg (16 - (j + 1))
        case measure => omega
        case rel => exact ⟨j + 1, m', P / 10, t', rfl, by omega, HPz, rfl, int_eq (by omega), hPd, HP', by omega, ht', HT2, hr, hf, hwr⟩
    · have hj16 : Hid (j = 16) := by unfold Hid; omega
      have hPP : P = 0 := unhide hPz (by omega)
      subst hPP
      go_wp2
      go_ret
      first | refine ⟨m', t', rfl, hr, ht', ?_, by omega, hwr⟩ | refine ⟨m', rfl, t', hr, ht', ?_, by omega, hwr⟩
      have := unhide htx'
      rw [unhide hj16] at this
      simpa using this

end Go.Proofs.Ygctai
