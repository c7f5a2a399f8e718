/-
  Package tw: Mul, Conj, Base, Table.
-/
import Derived.Test.YgctaiTake
import Derived.Test.YgctaiMulF
import Derived.Laws.FloatArith
import Derived.Laws.ComplexArith
namespace Go.Proofs.Ygctai
open Go.RowKit
set_option linter.unusedVariables false

/-- A complex value. -/
def cval (a : Cw) : Value := .complex .f64 a.re a.im
def cvals (X : Nat → Cw) : Nat → Value := fun i => cval (X i)
theorem cvals_at (X : Nat → Cw) (i : Nat) : cvals X i = .complex .f64 (X i).re (X i).im := rfl
theorem upd_cvals (X : Nat → Cw) (i : Nat) (v : Cw) : upd (cvals X) i (cval v) = cvals (upd X i v) := by
  funext j; unfold upd cvals; dsimp only; split <;> rfl
theorem Row.cput {w : World} {b off n : Nat} {X : Nat → Cw} (h : Row w b off n (cvals X)) (i : Nat) (v : Cw) {o x y : Nat} (hi : i < n) (ho : o = off + i) (hx : x = v.re) (hy : y = v.im) : Row (w.setCell ⟨b, o, none⟩ (.complex .f64 x y)) b off n (cvals (upd X i v)) := by
  subst ho; subst hx; subst hy; rw [← upd_cvals]; exact h.setCell hi _

theorem run_store_complex (P : Program) (w : World) (a : Addr) (k : FloatKind) (x y : Nat) (m : Mode) : (store a (.complex k x y) m).run P w = stored P w a (.complex k x y) m := run_store P w a _ m rfl
attribute [local go_sem] run_store_complex

theorem run_fmul {x y : Nat} (h : MulOk x y) (w : World) : (binOp .mul 144 (.float .f64 x) (.float .f64 y)).run Taig.prog w = .ok (.float .f64 (fmul x y)) w := run_float_arith w .mul 144 .f64 x y _ h.1
theorem run_fadd {x y : Nat} (h : AddOk x y) (w : World) : (binOp .add 144 (.float .f64 x) (.float .f64 y)).run Taig.prog w = .ok (.float .f64 (fadd x y)) w := run_float_arith w .add 144 .f64 x y _ h.1
theorem run_fsub {x y : Nat} (h : SubOk x y) (w : World) : (binOp .sub 144 (.float .f64 x) (.float .f64 y)).run Taig.prog w = .ok (.float .f64 (fsub x y)) w := run_float_arith w .sub 144 .f64 x y _ h.1
theorem run_fdiv {x y : Nat} (h : DivOk x y) (w : World) : (binOp .quo 144 (.float .f64 x) (.float .f64 y)).run Taig.prog w = .ok (.float .f64 (fdiv x y)) w := run_float_arith w .quo 144 .f64 x y _ h.1

set_option maxHeartbeats 400000 in
/-- tw.Mul. -/
theorem twMul_any (a b : Cw) (w : World) (h : WMulOk a b) :
    Calls Taig.prog 135 #[.complex .f64 a.re a.im, .complex .f64 b.re b.im] w fun e w' => e = .returned (.complex .f64 (wmul a b).re (wmul a b).im) ∧ w = w' := by
  have e1 := run_fmul h.m1
  have e2 := run_fmul h.m2
  have e3 := run_fmul h.m3
  have e4 := run_fmul h.m4
  have e5 := run_fsub h.s
  have e6 := run_fadd h.t
  go_enter Taig.func135, Taig.ntmps135
  go_wp2
  go_ret
  exact ⟨rfl, rfl⟩

set_option maxHeartbeats 400000 in
/-- tw.Conj. -/
theorem twConj_any (a : Cw) (w : World) :
    Calls Taig.prog 155 #[.complex .f64 a.re a.im] w fun e w' => e = .returned (.complex .f64 (wconj a).re (wconj a).im) ∧ w = w' := by
  have hn : ∀ w, (Op.unary .neg (.float .f64 a.im)).run Taig.prog w = .ok (.float .f64 (fneg a.im)) w := fun w => rfl
  go_enter Taig.func155, Taig.ntmps155
  go_wp2
  go_ret
  exact ⟨rfl, rfl⟩

set_option maxHeartbeats 1000000 in
/-- tw.Base. -/
theorem twBase_any (t : Nat) (ht : t ≤ 10) (w : World) :
    Calls Taig.prog 150 #[.int .u8 t] w fun e w' => e = .returned (.complex .f64 (base t).re (base t).im) ∧ w = w' := by
  have h : t = 0 ∨ t = 1 ∨ t = 2 ∨ t = 3 ∨ t = 4 ∨ t = 5 ∨ t = 6 ∨ t = 7 ∨ t = 8 ∨ t = 9 ∨ t = 10 := by omega
  rcases h with rfl | rfl | rfl | rfl | rfl | rfl | rfl | rfl | rfl | rfl | rfl
  all_goals
    go_enter Taig.func150, Taig.ntmps150
    go_wp2
    go_ret
    exact ⟨rfl, rfl⟩

theorem Taig.info145 : (Taig.prog.info? 145).map (fun i => (i.zero, i.size, i.bytes)) = some (some (.complex .f64 0 0), 1, 16) := by kernel_rfl
/-- 'make([]complex128, n)'. -/
theorem make119 (n : Nat) (hn : n ≤ 1099511627776) (w : World) : (Instr.makeSlice 119 (.int .i64 (n : Int)) (.int .i64 (n : Int))).run Taig.prog w = .ok (.slice (some ⟨w.heap.size, 0, none⟩) n n) (w.alloc (made (.complex .f64 0 0) n 145)) :=
  run_make_row' 119 145 (.complex .f64 0 0) 16 Taig.underlying119 Taig.info145 rfl .i64 .i64 n (by omega) (by omega) w
theorem row_cmade (w : World) (n : Nat) : Row (w.alloc (made (.complex .f64 0 0) n 145)) w.heap.size 0 n (cvals fun _ => ⟨0, 0⟩) := row_made w _ n 145

/-- tw.Table while it is made: b doublings done, and j entries of the next. -/
def tbAt (k b j : Nat) : Nat → Cw := fun i => if i < 2 ^ b then tb k b i else if i < 2 ^ b + j then tb k (b + 1) i else ⟨0, 0⟩

theorem tbAt_next (k b : Nat) : ∀ i, tbAt k b (2 ^ b) i = tbAt k (b + 1) 0 i := by
  intro i
  unfold tbAt
  rw [Nat.add_zero, Nat.pow_succ]
  by_cases h1 : i < 2 ^ b
  · rw [if_pos h1, if_pos (by omega), tb]; dsimp only; rw [if_pos h1]
  · rw [if_neg h1]
    by_cases h2 : i < 2 ^ b + 2 ^ b
    · rw [if_pos h2, if_pos (by omega)]
    · rw [if_neg h2, if_neg (by omega), if_neg (by omega)]

theorem tbAt_put (k b j : Nat) (hj : j < 2 ^ b) : upd (tbAt k b j) (2 ^ b + j) (wmul (tbAt k b j j) (base (k - b))) = tbAt k b (j + 1) := by
  have e1 : tbAt k b j j = tb k b j := by unfold tbAt; rw [if_pos hj]
  rw [e1]
  funext i
  unfold upd tbAt
  by_cases h : i = 2 ^ b + j
  · subst h
    rw [if_pos rfl, if_neg (by omega), if_pos (by omega), tb]
    dsimp only
    rw [if_neg (by omega), Nat.add_sub_cancel_left]
  · rw [if_neg h]
    by_cases h1 : i < 2 ^ b
    · rw [if_pos h1, if_pos h1]
    · rw [if_neg h1, if_neg h1]
      by_cases h2 : i < 2 ^ b + j
      · rw [if_pos h2, if_pos (by omega)]
      · rw [if_neg h2, if_neg (by omega)]

theorem wrap_pow (k : Nat) (hk : k ≤ 40) : wrap64 (2 ^ k) = ((2 ^ k : Nat) : Int) := by
  have h1 : 2 ^ k ≤ 2 ^ 40 := Nat.pow_le_pow_right (by decide) hk
  have e : ((2 : Int) ^ k) = ((2 ^ k : Nat) : Int) := by simp
  rw [e]
  generalize 2 ^ k = P at *
  exact IntWalk.wrap64_in _ ⟨by omega, by omega⟩

set_option maxRecDepth 100000 in
set_option maxHeartbeats 2000000 in
theorem twTable_core (k N : Nat) (hk : k ≤ 10) (h1 : 1 ≤ k) (hN : Hid (N = 2 ^ (k - 1))) (hN1 : 1 ≤ N) (hN2 : N ≤ 1024) (w : World) :
    Calls Taig.prog 132 #[.int .u8 k] w fun e w' => e = .returned (.slice (some ⟨w.heap.size, 0, none⟩) N N) ∧ Row w' w.heap.size 0 N (cvals (tabw k)) ∧ Below w.heap.size w w' := by
  have hsh : wrap64 (2 ^ (k - 1)) = (N : Int) := by rw [unhide hN]; exact wrap_pow _ (by omega)
  have hmk := make119 N (by omega)
  have t1 := (tb_apx hk (k - 1) (by omega)).2
  have HT := hide t1
  clear t1
  have c0 : ∀ w : World, (w.alloc (made (.complex .f64 0 0) N 145)).cell? ⟨w.heap.size, 0, none⟩ = some (.complex .f64 0 0) := fun w => by have := (row_cmade w N).cell (i := 0) hN1; simp only [Nat.zero_add, cvals_at] at this; exact this
  have f0 : ∀ w : World, (w.alloc (made (.complex .f64 0 0) N 145)).frozen? ⟨w.heap.size, 0, none⟩ = false := fun w => by have := free_made w (.complex .f64 0 0) N 145 0 hN1; simp only [Nat.zero_add] at this; exact this
  go_enter Taig.func132, Taig.ntmps132
  go_wp2
  go_loopg [5] k (fun gk bs wr => ∃ b : Nat, gk = k - b ∧ b + 1 ≤ k ∧ bs = .int .u8 b ∧ Row wr w.heap.size 0 N (cvals (tbAt k b 0)) ∧ Free wr w.heap.size 0 N ∧ Below w.heap.size w wr)
  case atStart => exact ⟨0, rfl, by omega, rfl, ((row_cmade w N).cput 0 (base 0) hN1 rfl rfl rfl).congr (fun i hi => by
    unfold cvals; congr 1
    unfold upd tbAt
    by_cases h : i = 0
    · rw [if_pos h, if_pos (by rw [h]; decide)]; rfl
    · rw [if_neg h, if_neg (by rw [Nat.pow_zero]; omega), if_neg (by rw [Nat.pow_zero]; omega)]), (free_made _ _ _ _).setCell _ _, (below_alloc _ _).setCell (Nat.le_refl _) _⟩
  case round =>
    obtain ⟨b, rfl, hb, rfl, hrow, hfree, hbel⟩ := hrel
    obtain ⟨M, hM⟩ : ∃ M, M = 2 ^ b := ⟨_, rfl⟩
    have hM1 : 1 ≤ M := by rw [hM]; exact Nat.two_pow_pos b
    have hsh2 : wrap64 (2 ^ b) = (M : Int) := by rw [hM]; exact wrap_pow _ (by omega)
    by_cases hlt : b + 1 < k
    · have hMN : 2 * M ≤ N := by
        rw [unhide hN, hM, ← Nat.pow_succ']; exact Nat.pow_le_pow_right (by decide) (by omega)
      have KB := twBase_any (k - b) (by omega) wr
      rw [show ((k - b : Nat) : Int) = (k : Int) - b by omega] at KB
      have HKB := hide KB
      have HM := hide hM
      clear KB hM hsh hmk c0 f0
      go_wp2_with fail
      refine (unhide HKB).mono ?_
      rintro e w2 ⟨rfl, rfl⟩
      go_wp2
      go_loopg [8] M (fun gj js wi => ∃ j : Nat, gj = M - j ∧ j ≤ M ∧ js = .int .i64 j ∧ Row wi w.heap.size 0 N (cvals (tbAt k b j)) ∧ Free wi w.heap.size 0 N ∧ Below w.heap.size w wi)
      case atStart => exact ⟨0, rfl, Nat.zero_le _, rfl, hrow, hfree, hbel⟩
      case round =>
        obtain ⟨j, rfl, hj, rfl, hrow2, hfree2, hbel2⟩ := hrel
        clear hrow hfree hbel
        by_cases hjl : j < M
        · have c1 := hrow2.cell (i := j) (by omega)
          have c2 := hrow2.cell (i := M + j) (by omega)
          have f2 := hfree2 (M + j) (by omega)
          simp only [Nat.zero_add, cvals_at] at c1 c2 f2
          have hok : WMulOk (tbAt k b j j) (base (k - b)) := by
            have : tbAt k b j j = tb k b j := by unfold tbAt; rw [if_pos (by rw [← unhide HM]; exact hjl)]
            rw [this]; exact unhide HT b (by omega) j (by rw [← unhide HM]; exact hjl)
          go_wp2_with fail
          refine (twMul_any _ _ _ hok).mono ?_
          rintro e w2 ⟨rfl, rfl⟩
          go_wp2
          go_roundg (M - (j + 1))
          case measure => omega
          case rel => exact ⟨j + 1, rfl, by omega, by go_num, by
            rw [← tbAt_put k b j (by rw [← unhide HM]; exact hjl), ← unhide HM]
            exact hrow2.cput (M + j) _ (by omega) (by omega) rfl rfl, hfree2.setCell _ _, hbel2.setCell (Nat.le_refl _) _⟩
        · have hj' : j = M := by omega
          subst hj'
          go_wp2
          go_roundg (k - (b + 1))
          case measure => omega
          case rel => exact ⟨b + 1, rfl, by omega, by go_num, hrow2.congr fun i _ => by
            unfold cvals; rw [unhide HM, tbAt_next], hfree2, hbel2⟩
    · have hbk : Hid (b = k - 1) := by unfold Hid; omega
      go_wp2
      go_ret
      exact ⟨rfl, hrow.congr fun i hi => by
        unfold cvals tabw tbAt
        rw [unhide hbk, if_pos (by rw [← unhide hN]; exact hi)], hbel⟩

/-- tw.Table. -/
theorem twTable_any (k : Nat) (hk : k ≤ 10) (h1 : 1 ≤ k) (w : World) :
    Calls Taig.prog 132 #[.int .u8 k] w fun e w' => e = .returned (.slice (some ⟨w.heap.size, 0, none⟩) (2 ^ (k - 1)) (2 ^ (k - 1))) ∧ Row w' w.heap.size 0 (2 ^ (k - 1)) (cvals (tabw k)) ∧ Below w.heap.size w w' :=
  twTable_core k (2 ^ (k - 1)) hk h1 rfl (Nat.two_pow_pos _) (Nat.le_trans (Nat.pow_le_pow_right (by decide) (show k - 1 ≤ 10 by omega)) (by decide)) w
end Go.Proofs.Ygctai
