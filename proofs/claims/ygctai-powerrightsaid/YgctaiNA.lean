/-
  ntt: below, MulMod, fold, factorOf, factor.times.
-/
import Derived.Test.YgctaiNp
import Derived.Test.YgctaiMem
namespace Go.Proofs.Ygctai
open Go.RowKit
set_option linter.unusedVariables false

/-- w*2^32/P. -/
def rat (w : Nat) : Nat := w * 4294967296 / 998244353
theorem rat_lt {w : Nat} (h : w < 998244353) : rat w < 4294967296 := by unfold rat; omega
/-- After Shoup. -/
theorem shoup {x w : Nat} (hx : x < 4294967296) (hw : w < 998244353) : x * rat w / 4294967296 * 998244353 ≤ x * w ∧ x * w < x * rat w / 4294967296 * 998244353 + 1996488706 := by
  have h1 : rat w * 998244353 ≤ w * 4294967296 := Nat.div_mul_le_self _ _
  have h2 : w * 4294967296 < (rat w + 1) * 998244353 := by unfold rat; omega
  obtain ⟨q, hq⟩ : ∃ q, x * rat w / 4294967296 = q := ⟨_, rfl⟩
  rw [hq]
  have h3 : q * 4294967296 ≤ x * rat w := by rw [← hq]; exact Nat.div_mul_le_self _ _
  have h4 : x * rat w < (q + 1) * 4294967296 := by omega
  have h5 := Nat.mul_le_mul_left x h1
  have h6 := Nat.mul_le_mul_left x (Nat.le_of_lt h2)
  rw [← Nat.mul_assoc, ← Nat.mul_assoc] at h5
  rw [← Nat.mul_assoc, ← Nat.mul_assoc, Nat.mul_add, Nat.mul_one, Nat.add_mul] at h6
  generalize x * rat w = a at *
  generalize x * w = b at *
  omega

set_option maxRecDepth 100000 in
/-- ntt.fold. -/
theorem fold_any (s : Nat) (w : World) (hs : s < 1996488706) :
    Calls Taig.prog 162 #[.int .u32 s] w fun e w' => e = .returned (.int .u32 ((s % 998244353 : Nat) : Int)) ∧ w = w' := by
  have hsI : (s : Int) < 1996488706 := by omega
  clear hs
  by_cases h : 998244353 ≤ s
  · have e1 : Hid (s % 998244353 = s - 998244353) := by unfold Hid; omega
    have b1 : decide ((998244353 : Int) ≤ (s : Int)) = true := decide_eq_true (by omega)
    have h1 : (998244353 : Int) ≤ (s : Int) := by omega
    have HH := hide h
    clear h
    go_enter Taig.func162, Taig.ntmps162
    go_wp2
    go_ret
    exact ⟨by rw [unhide e1]; exact congrArg (fun z => Ending.returned (.int .u32 z)) (by have := unhide HH; omega), rfl⟩
  · have e1 : Hid (s % 998244353 = s) := by unfold Hid; omega
    have b1 : decide ((998244353 : Int) ≤ (s : Int)) = false := decide_eq_false (by omega)
    clear h
    go_enter Taig.func162, Taig.ntmps162
    go_wp2
    go_ret
    exact ⟨by rw [unhide e1]; rfl, rfl⟩

set_option maxRecDepth 100000 in
/-- ntt.below. -/
theorem below_any (a : Nat) (w : World) (ha : a < 4294967296) :
    Calls Taig.prog 144 #[.int .u32 a] w fun e w' => e = .returned (.int .u32 ((a % 998244353 : Nat) : Int)) ∧ w = w' := by
  have e2 : (a : Int).tmod 998244353 = ((a % 998244353 : Nat) : Int) := by rw [Int.tmod_eq_emod_of_nonneg (by omega)]; omega
  by_cases h : 998244353 ≤ a
  · have b1 : decide ((998244353 : Int) ≤ (a : Int)) = true := decide_eq_true (by omega)
    clear h
    go_enter Taig.func144, Taig.ntmps144
    go_wp2
    go_ret
    exact ⟨by first | rfl | exact congrArg (fun z => Ending.returned (.int .u32 z)) (by omega), rfl⟩
  · have e1 : Hid (a % 998244353 = a) := by unfold Hid; omega
    have b1 : decide ((998244353 : Int) ≤ (a : Int)) = false := decide_eq_false (by omega)
    clear h
    go_enter Taig.func144, Taig.ntmps144
    go_wp2
    go_ret
    exact ⟨by rw [unhide e1]; rfl, rfl⟩

/-- A factor in memory. -/
def fac (v : Nat) : Value := .agg #[.int .u32 (v : Int), .int .u32 (rat v : Int)]
theorem Taig.size173 : (Taig.prog.info? 173).map (·.size) = some 2 := by kernel_rfl
theorem rat_int (v : Nat) : (v : Int) * 4294967296 / 998244353 = (rat v : Int) := by unfold rat; omega

set_option maxRecDepth 100000 in
/-- ntt.factorOf. -/
theorem factorOf_any (v : Nat) (w : World) (hv : v < 998244353) :
    Calls Taig.prog 161 #[.int .u32 v] w fun e w' => e = .returned (fac v) ∧ Below w.heap.size w w' := by
  have hr := rat_int v
  have hr2 := rat_lt hv
  go_enter Taig.func161, Taig.ntmps161
  go_wp2
  refine bodyPost_ret (results_cell_row rfl _ _ w.heap.size 173 _ (0, 0) _ rfl (heap_alloc_new _ _) Taig.underlying173 rfl (by rw [Taig.size173]; rfl)) rfl ?_
  exact ⟨rfl, below_alloc _ _⟩

theorem tms {a b : Nat} {c d : Int} (hb : b < 18446744073709551616) (h1 : b / 4294967296 * 998244353 ≤ a) (h2 : a < b / 4294967296 * 998244353 + 1996488706) (hc : c = (a : Int)) (hd : d = (b : Int)) :
    (c % 4294967296 - IntKind.u64.wrap d / 4294967296 % 4294967296 * 998244353 % 4294967296) % 4294967296 = ((a - b / 4294967296 * 998244353 : Nat) : Int) := by
  subst hc; subst hd
  rw [IntKind.wrap_u64]; omega

set_option maxRecDepth 100000 in
/-- factor.times. -/
theorem times_any (v x : Nat) (w : World) (hv : v < 998244353) (hx : x < 4294967296) :
    Calls Taig.prog 163 #[fac v, .int .u32 x] w fun e w' => ∃ r : Nat, e = .returned (.int .u32 r) ∧ r < 1996488706 ∧ Eqm r (x * v) ∧ Below w.heap.size w w' := by
  have hr2 := rat_lt hv
  obtain ⟨h1, h2⟩ := shoup hx hv
  have hb : x * rat v < 18446744073709551616 := by
    have := Nat.mul_le_mul (show x ≤ 4294967295 by omega) (show rat v ≤ 4294967295 by omega)
    omega
  have hn := hide (tms (c := (x : Int) * (v : Int)) (d := (x : Int) * (rat v : Int)) hb h1 h2 (Int.natCast_mul _ _).symm (Int.natCast_mul _ _).symm)
  have he : Hid (Eqm (x * v - x * rat v / 4294967296 * 998244353) (x * v)) := by
    have := eqm_addP (x * v - x * rat v / 4294967296 * 998244353) (x * rat v / 4294967296)
    rw [show PP = 998244353 from rfl, Nat.mul_comm 998244353, Nat.sub_add_cancel h1] at this
    exact this.symm
  have hl : Hid (x * v - x * rat v / 4294967296 * 998244353 < 1996488706) := by unfold Hid; omega
  clear h1 h2 hb
  unfold fac
  go_enter Taig.func163, Taig.ntmps163
  go_wp2
  go_ret
  exact ⟨_, congrArg (fun z => Ending.returned (.int .u32 z)) (unhide hn), hl, he, below_alloc _ _⟩
end Go.Proofs.Ygctai
