/-
  Package fft: Stage, Forward, Inverse.
-/
import Derived.Test.YgctaiFftA
namespace Go.Proofs.Ygctai
open Go.RowKit
set_option linter.unusedVariables false
attribute [local go_sem] run_store_complex

theorem wrN {b lo hi : Nat} {w w' : World} (h : Wr b lo hi w w') (n : Nat) : Wr b lo hi w (w'.drewN n) := ⟨h.os, h.tape, h.output, h.size, h.block, h.cell, h.frozen⟩

theorem run_wadd {a b : Cw} (h : WAddOk a b) (w : World) : (binOp .add 145 (.complex .f64 a.re a.im) (.complex .f64 b.re b.im)).run Taig.prog w = .ok (.complex .f64 (wadd a b).re (wadd a b).im) w := by
  refine run_complex_sum w .add (.inl rfl) 145 .f64 a.re a.im b.re b.im _ _ ?_
  have h1 : floatBits .add .f64 a.re b.re = some (fadd a.re b.re) := h.r.1
  have h2 : floatBits .add .f64 a.im b.im = some (fadd a.im b.im) := h.i.1
  simp [cSumBits, h1, h2, wadd]
theorem run_wsub {a b : Cw} (h : WSubOk a b) (w : World) : (binOp .sub 145 (.complex .f64 a.re a.im) (.complex .f64 b.re b.im)).run Taig.prog w = .ok (.complex .f64 (wsub a b).re (wsub a b).im) w := by
  refine run_complex_sum w .sub (.inr rfl) 145 .f64 a.re a.im b.re b.im _ _ ?_
  have h1 : floatBits .sub .f64 a.re b.re = some (fsub a.re b.re) := h.r.1
  have h2 : floatBits .sub .f64 a.im b.im = some (fsub a.im b.im) := h.i.1
  simp [cSumBits, h1, h2, wsub]

/-- A pass half done: the blocks ahead of S, and j butterflies of the block at S. -/
def stgTo (c p : Nat) (T X : Nat → Cw) (S j : Nat) : Nat → Cw := fun q => if q < S ∨ (q < S + 2 * c ∧ (q - S) % c < j) then stg c p T X q else X q

theorem stgTo_next {c p S : Nat} {T X : Nat → Cw} (hc : 0 < c) (q : Nat) : stgTo c p T X S c q = stgTo c p T X (S + 2 * c) 0 q := by
  unfold stgTo
  have h := Nat.mod_lt (q - S) hc
  by_cases h1 : q < S + 2 * c
  · rw [if_pos (by omega), if_pos (by omega)]
  · rw [if_neg (by omega), if_neg (by omega)]

theorem blk_mod {c S j : Nat} (hS : S % (2 * c) = 0) (hj : j < 2 * c) : (S + j) % (2 * c) = j := by
  rw [Nat.add_mod, hS, Nat.zero_add, Nat.mod_mod, Nat.mod_eq_of_lt hj]

theorem stgTo_put {c p S j : Nat} {T X : Nat → Cw} (hc : 0 < c) (hS : S % (2 * c) = 0) (hj : j < c) :
    upd (upd (stgTo c p T X S j) (S + j) (wadd (X (S + j)) (wmul (X (S + j + c)) (T (j * p))))) (S + j + c) (wsub (X (S + j)) (wmul (X (S + j + c)) (T (j * p)))) = stgTo c p T X S (j + 1) := by
  funext q
  have m1 := blk_mod hS (show j < 2 * c by omega)
  have m2 := blk_mod hS (show j + c < 2 * c by omega)
  rw [← Nat.add_assoc] at m2
  unfold upd stgTo
  by_cases h1 : q = S + j + c
  · subst h1
    have e : (S + j + c - S) % c = j := by rw [show S + j + c - S = j + c by omega, Nat.add_mod_right, Nat.mod_eq_of_lt hj]
    rw [if_pos rfl, if_pos (by omega)]
    unfold stg
    rw [m2, if_neg (by omega), show S + j + c - c = S + j by omega, show j + c - c = j by omega]
  · rw [if_neg h1]
    by_cases h2 : q = S + j
    · subst h2
      have e : (S + j - S) % c = j := by rw [Nat.add_sub_cancel_left, Nat.mod_eq_of_lt hj]
      rw [if_pos rfl, if_pos (by omega)]
      unfold stg
      rw [m1, if_pos hj]
    · rw [if_neg h2]
      by_cases h3 : q < S ∨ (q < S + 2 * c ∧ (q - S) % c < j)
      · rw [if_pos h3, if_pos (by omega)]
      · rw [if_neg h3]
        rw [if_neg]
        rintro (h4 | ⟨h4, h5⟩)
        · omega
        · have h6 : (q - S) % c = j := by omega
          have h7 := Nat.div_add_mod (q - S) c
          have h8 : (q - S) / c < 2 := by rw [Nat.div_lt_iff_lt_mul hc]; clear h3 h7 h6 h5; omega
          have h9 : (q - S) / c = 0 ∨ (q - S) / c = 1 := by generalize (q - S) / c = d at h8 ⊢; omega
          rcases h9 with h9 | h9
          · rw [h9, Nat.mul_zero] at h7; omega
          · rw [h9, Nat.mul_one] at h7; omega

theorem stgTo_old {c p S j : Nat} {T X : Nat → Cw} (hc : 0 < c) (hj : j < c) : stgTo c p T X S j (S + j) = X (S + j) ∧ stgTo c p T X S j (S + j + c) = X (S + j + c) := by
  unfold stgTo
  constructor
  · have e : (S + j - S) % c = j := by rw [Nat.add_sub_cancel_left, Nat.mod_eq_of_lt hj]
    rw [if_neg (by omega)]
  · have e : (S + j + c - S) % c = j := by rw [show S + j + c - S = j + c by omega, Nat.add_mod_right, Nat.mod_eq_of_lt hj]
    rw [if_neg (by omega)]


theorem twMul_same (a b : Cw) (w : World) (h : WMulOk a b) :
    Calls Taig.prog 135 #[.complex .f64 a.re a.im, .complex .f64 b.re b.im] w fun e w' => e = .returned (.complex .f64 (wmul a b).re (wmul a b).im) ∧ w' = w :=
  (twMul_any a b w h).mono fun e w' h => ⟨h.1, h.2.symm⟩

set_option maxRecDepth 100000 in
set_option maxHeartbeats 4000000 in
/-- fft.Stage, pass t + 1, half c = 2^t, step p = 2^m, m + t + 1 = k. -/
theorem stage_core (k t m N H c p b off cap b2 o2 cap2 : Nat) (X T : Nat → Cw) (w : World) (hk : k ≤ 10) (hkm : m + t + 1 = k) (hN : Hid (N = 2 ^ k)) (hH : 2 * H = N) (hc : Hid (c = 2 ^ t)) (hp : Hid (p = 2 ^ m)) (hcp : Hid (c * p = H)) (hN2 : N ≤ 1024) (hc0 : 0 < c) (hp0 : 0 < p)
    (hrow : Row w b off N (cvals X)) (hfree : Free w b off N) (htab : Row w b2 o2 H (cvals T)) (hbb : b2 ≠ b) (hok : StgOk N c p T X) :
    Calls Taig.prog 154 #[.slice (some ⟨b, off, none⟩) N cap, .slice (some ⟨b2, o2, none⟩) H cap2, .int .u8 ((t : Int) + 1)] w fun e w' => e = .returned (.tuple #[]) ∧ Row w' b off N (cvals (stg c p T X)) ∧ Wr b off (off + N) w w' := by
  have hsc : wrap64 (2 ^ t) = (c : Int) := by rw [unhide hc]; exact wrap_pow _ (by omega)
  have hsp : wrap64 (2 ^ (k - (t + 1))) = (p : Int) := by rw [unhide hp, show k - (t + 1) = m by omega]; exact wrap_pow _ (by omega)
  have hcN : c ≤ H := by rw [← unhide hcp]; exact Nat.le_mul_of_pos_right _ hp0
  have HOK := hide hok
  clear hok
  go_enter Taig.func154, Taig.ntmps154
  go_wp2_with fail
  refine (fftLevel_any k N (by omega) hN w).mono ?_
  rintro e w' ⟨rfl, rfl⟩
  go_wp2_with fail
  refine (fits_any k N H (by omega) (by omega) hN hH w).mono ?_
  rintro e w' ⟨rfl, rfl⟩
  go_wp2
  go_quiet (fail)
  go_wp2
  have hNc : Hid (N % (2 * c) = 0) := by
    unfold Hid
    rw [← hH, ← unhide hcp, ← Nat.mul_assoc, Nat.mul_mod_right]
  go_loopg [9] N (fun gk sv wr => ∃ S : Nat, gk = N - S ∧ S ≤ N ∧ sv = .int .i64 S ∧ Hid (S % (2 * c) = 0) ∧ Row wr b off N (cvals (stgTo c p T X S 0)) ∧ Free wr b off N ∧ Row wr b2 o2 H (cvals T) ∧ Wr b off (off + N) w wr)
  case atStart => exact ⟨0, rfl, Nat.zero_le _, rfl, Nat.zero_mod _, (hrow.drewN nq).congr (fun i _ => by unfold cvals stgTo; rw [if_neg (by omega)]), hfree.drewN nq, htab.drewN nq, wrN (Wr.refl _ _ _ _) nq⟩
  case round =>
    obtain ⟨S, rfl, hS, rfl, hSm, hrow2, hfree2, htab2, hwr⟩ := hrel
    clear hrow hfree htab
    by_cases hlt : S < N
    · have hS2 : S + 2 * c ≤ N := by
        have h1 := Nat.div_add_mod S (2 * c)
        have h2 := Nat.div_add_mod N (2 * c)
        rw [unhide hSm] at h1
        rw [unhide hNc] at h2
        have h3 : S / (2 * c) < N / (2 * c) := Nat.lt_of_mul_lt_mul_left (a := 2 * c) (by omega)
        have h4 : 2 * c * (S / (2 * c) + 1) ≤ 2 * c * (N / (2 * c)) := Nat.mul_le_mul_left _ h3
        rw [Nat.mul_add, Nat.mul_one] at h4
        omega
      go_wp2
      go_loopg [10] c (fun gj jv wi => ∃ j : Nat, gj = c - j ∧ j ≤ c ∧ jv = .int .i64 j ∧ Row wi b off N (cvals (stgTo c p T X S j)) ∧ Free wi b off N ∧ Row wi b2 o2 H (cvals T) ∧ Wr b off (off + N) w wi)
      case atStart => exact ⟨0, rfl, Nat.zero_le _, rfl, hrow2, hfree2, htab2, hwr⟩
      case round =>
        obtain ⟨j, rfl, hj, rfl, hrow3, hfree3, htab3, hwr3⟩ := hrel
        clear hrow2 hfree2 htab2 hwr
        by_cases hjl : j < c
        · have hjp : j * p < H := by rw [← unhide hcp]; exact Nat.mul_lt_mul_of_pos_right hjl hp0
          have c1 := hrow3.cell (i := S + j) (by omega)
          have c2 := hrow3.cell (i := S + j + c) (by omega)
          have c3 := htab3.cell (i := j * p) hjp
          have f1 := hfree3 (S + j) (by omega)
          have f2 := hfree3 (S + j + c) (by omega)
          obtain ⟨o1, o2'⟩ := stgTo_old (p := p) (S := S) (T := T) (X := X) hc0 hjl
          simp only [cvals_at] at c1 c2 c3
          rw [o1] at c1
          rw [o2'] at c2
          obtain ⟨k1, k2, k3⟩ := unhide HOK (S + j) (by omega) (by rw [blk_mod (unhide hSm) (by omega)]; exact hjl)
          rw [blk_mod (unhide hSm) (by omega)] at k1 k2 k3
          have q1 := fun w => twMul_same (X (S + j + c)) (T (j * p)) w k1
          have q2 := run_wadd k2
          have q3 := run_wsub k3
          have Q1 := hide q1
          have hjpc : ((j : Int) * (p : Int)) = ((j * p : Nat) : Int) := by simp
          have hjpb : (j : Int) * (p : Int) ≤ 1024 := by rw [hjpc]; omega
          have hjp0 : (0 : Int) ≤ (j : Int) * (p : Int) := by rw [hjpc]; omega
          clear o1 o2' k1 k2 k3 q1 hjpc
          go_wp2
          go_quiet ((go_at_call 135; exact Calls.quiet_of_same (unhide Q1 _)))
          go_wp2
          go_roundg (c - (j + 1))
          case measure => omega
          case rel => exact ⟨j + 1, rfl, by omega, by go_num, by
            rw [← stgTo_put hc0 (unhide hSm) hjl]
            exact ((hrow3.drewN _).cput (S + j) _ (by omega) rfl rfl rfl).cput (S + j + c) _ (by omega) rfl rfl rfl, ((hfree3.drewN _).setCell _ _).setCell _ _, ((htab3.drewN _).setOther (.inl (fun e => hbb e.symm)) _).setOther (.inl (fun e => hbb e.symm)) _, ((wrN hwr3 _).setCell (by omega) (by omega) _).setCell (by omega) (by omega) _⟩
        · have hjc : j = c := by omega
          subst hjc
          go_wp2
          go_roundg (N - (S + 2 * j))
          case measure => omega
          case rel => exact ⟨S + 2 * j, rfl, hS2, by go_num, by unfold Hid; rw [Nat.add_mod_right]; exact unhide hSm, hrow3.congr (fun q _ => by unfold cvals; rw [stgTo_next hc0]), hfree3, htab3, hwr3⟩
    · have hSN : Hid (S = N) := by unfold Hid; omega
      go_wp2
      go_end0
      exact ⟨rfl, hrow2.congr (fun q hq => by unfold cvals stgTo; rw [if_pos (by rw [unhide hSN]; exact .inl hq)]), hwr⟩
end Go.Proofs.Ygctai
