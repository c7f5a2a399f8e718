/-
  Package fft: quarter, Nearest.
-/
import Derived.Test.YgctaiFftD
import Derived.Test.YgctaiNear
namespace Go.Proofs.Ygctai
open Go.RowKit
set_option linter.unusedVariables false

set_option maxHeartbeats 400000 in
/-- fft.quarter near zero. -/
theorem quarter_true (x : Nat) (w : World) (hx : Fn x) (h : Bd (sc x) (2251799813685247 * VV)) :
    Calls Taig.prog 130 #[.float .f64 x] w fun e w' => e = .returned (.bool true) ∧ w = w' := by
  obtain ⟨h1, h2⟩ := quart_in hx h
  have o1 : FloatKind.f64.format.order x 4598175219545276416 = some .lt := h1
  have o2 : FloatKind.f64.format.order x 13821547256400052224 = some .gt := h2
  clear h1 h2 h
  go_enter Taig.func130, Taig.ntmps130
  go_wp2
  go_ret
  exact ⟨rfl, rfl⟩

set_option maxHeartbeats 400000 in
/-- fft.quarter of whatever number: some answer. -/
theorem quarter_any (x : Nat) (w : World) : Calls Taig.prog 130 #[.float .f64 x] w fun e w' => (∃ q, e = .returned (.bool q)) ∧ w = w' := by
  generalize hb : (FloatKind.f64.format.order x 4598175219545276416 == some .lt || FloatKind.f64.format.order x 4598175219545276416 == some .eq) = b
  cases b
  · go_enter Taig.func130, Taig.ntmps130
    go_wp2
    go_ret
    exact ⟨⟨_, rfl⟩, rfl⟩
  · go_enter Taig.func130, Taig.ntmps130
    go_wp2
    go_ret
    exact ⟨⟨_, rfl⟩, rfl⟩

set_option maxRecDepth 100000 in
set_option maxHeartbeats 1000000 in
/-- fft.Nearest near a whole number. -/
theorem nearest_any (v N : Nat) (w : World) (hv : Fn v) (hN : N ≤ 68719476736) (h : Bd (sc v - (N : Int) * SS) NB) :
    Calls Taig.prog 131 #[.float .f64 v] w fun e w' => e = .returned (.tuple #[.int .i64 N, .bool true]) ∧ w = w' := by
  have hV := vv_big
  have hS := ss_vv
  have hnb := nb_def
  have hNS : (N : Int) * SS ≤ 68719476736 * SS := Int.mul_le_mul_of_nonneg_right (by omega) (by omega)
  have hNS0 : 0 ≤ (N : Int) * SS := Int.mul_nonneg (by omega) (by omega)
  have a1 : FloatKind.f64.format.order v 4841369599423283200 = some .lt := ord_lt hv c_big.1 (by rw [c_big.2]; unfold Bd at h; generalize (N : Int) * SS = Q at *; omega)
  have a2 : FloatKind.f64.format.order v 14064741636278059008 = some .gt := ord_gt hv c_mbig.1 (by rw [c_mbig.2]; unfold Bd at h; generalize (N : Int) * SS = Q at *; omega)
  -- the difference from N
  obtain ⟨s1, s2, s3⟩ := sub_whole (t := (N : Int)) hv (by omega) (by omega) (lo := -577100000000000) (hi := 577100000000000) (by unfold Bd at h; generalize (N : Int) * SS = Q at *; omega) (by unfold Bd at h; generalize (N : Int) * SS = Q at *; omega) (by decide) (by decide)
  have r1 : ∀ w, (binOp .sub 144 (.float .f64 v) (.float .f64 (floatOfInt .f64 (N : Int)))).run Taig.prog w = .ok (.float .f64 (fsub v (ofi N))) w := run_fsub s1
  have q1 := quarter_true (fsub v (ofi N)) w s1.2 (by unfold Bd; omega)
  have Q1 := hide q1
  rcases toInt_val hv h with ht | ⟨hN1, hlt, ht⟩
  · have hcv : floatToIntVal .f64 v .i64 = some (N : Int) := by
      unfold floatToIntVal
      have : (FloatKind.f64.decode v).toInt .zero = some (N : Int) := ht
      rw [this]
      dsimp only
      rw [if_pos ⟨by show (-9223372036854775808 : Int) ≤ _; omega, by show _ ≤ (9223372036854775807 : Int); omega⟩]
    have r0 : ∀ w, (convert 144 2 (.float .f64 v)).run Taig.prog w = .ok (.int .i64 (N : Int)) w := fun w => run_convert_float_int w 144 2 .f64 .i64 v N (by rw [Taig.underlying144]; rfl) Taig.underlying2 hcv
    have o1 : FloatKind.f64.format.order (fsub v (ofi N)) 4602678819172646912 = some .lt := ord_lt s1.2 c_half.1 (by rw [c_half.2]; omega)
    have o2 : FloatKind.f64.format.order (fsub v (ofi N)) 13826050856027422720 = some .gt := ord_gt s1.2 c_mhalf.1 (by rw [c_mhalf.2]; omega)
    clear hcv ht s1 s2 s3 h hNS hNS0 hV hS hnb q1
    go_enter Taig.func131, Taig.ntmps131
    go_wp2_with fail
    refine (unhide Q1).mono ?_
    rintro e w' ⟨rfl, rfl⟩
    go_wp2
    go_ret2
    exact ⟨rfl, rfl⟩
  · have hcv : floatToIntVal .f64 v .i64 = some ((N : Int) - 1) := by
      unfold floatToIntVal
      have : (FloatKind.f64.decode v).toInt .zero = some ((N : Int) - 1) := ht
      rw [this]
      dsimp only
      rw [if_pos ⟨by show (-9223372036854775808 : Int) ≤ _; omega, by show _ ≤ (9223372036854775807 : Int); omega⟩]
    have r0 : ∀ w, (convert 144 2 (.float .f64 v)).run Taig.prog w = .ok (.int .i64 ((N : Int) - 1)) w := fun w => run_convert_float_int w 144 2 .f64 .i64 v _ (by rw [Taig.underlying144]; rfl) Taig.underlying2 hcv
    have e3 : ((N : Int) - 1) * SS = (N : Int) * SS - SS := by rw [Int.sub_mul, Int.one_mul]
    obtain ⟨t1, t2, t3⟩ := sub_whole (t := (N : Int) - 1) hv (by omega) (by omega) (lo := 8430099254740992) (hi := 9007199254740992) (by rw [e3]; unfold Bd at h; generalize (N : Int) * SS = Q at *; omega) (by rw [e3]; unfold Bd at h; generalize (N : Int) * SS = Q at *; omega) (by decide) (by decide)
    have r2 : ∀ w, (binOp .sub 144 (.float .f64 v) (.float .f64 (floatOfInt .f64 ((N : Int) - 1)))).run Taig.prog w = .ok (.float .f64 (fsub v (ofi ((N : Int) - 1)))) w := run_fsub t1
    have o1 : FloatKind.f64.format.order (fsub v (ofi ((N : Int) - 1))) 4602678819172646912 = some .gt := ord_gt t1.2 c_half.1 (by rw [c_half.2]; omega)
    have o2 : FloatKind.f64.format.order (fsub v (ofi ((N : Int) - 1))) 13826050856027422720 = some .gt := ord_gt t1.2 c_mhalf.1 (by rw [c_mhalf.2]; omega)
    clear hcv ht s1 s2 s3 t1 t2 t3 h hNS hNS0 hV hS hnb q1 hlt e3
    go_enter Taig.func131, Taig.ntmps131
    go_wp2_with fail
    refine (unhide Q1).mono ?_
    rintro e w' ⟨rfl, rfl⟩
    go_wp2
    go_ret2
    exact ⟨by simp, rfl⟩
end Go.Proofs.Ygctai
