/-
  ntt.factors.
-/
import Derived.Test.YgctaiNF
namespace Go.Proofs.Ygctai
open Go.RowKit
set_option linter.unusedVariables false

/-- A factor stored. -/
theorem Row.fput {w : World} {b off n : Nat} {g : Nat → Nat} (h : Row w b off (2 * n) (frw g)) (i v : Nat) (hi : i < n) {o o' : Nat} {z z' : Int} (ho : o = off + 2 * i) (ho' : o' = off + (2 * i + 1)) (hz : z = v) (hz' : z' = rat v) :
    Row ((w.setCell ⟨b, o, none⟩ (.int .u32 z)).setCell ⟨b, o', none⟩ (.int .u32 z')) b off (2 * n) (frw (upd g i v)) := by
  subst ho; subst ho'; subst hz; subst hz'
  refine ((h.setCell (i := 2 * i) (by omega) _).setCell (i := 2 * i + 1) (by omega) _).congr fun j hj => ?_
  by_cases e1 : j = 2 * i + 1
  · rw [e1, upd_at, frw_odd, upd_at]
  · rw [upd_ne _ _ e1]
    by_cases e2 : j = 2 * i
    · rw [e2, upd_at, frw_even, upd_at]
    · rw [upd_ne _ _ e2]
      unfold frw
      rw [upd_ne _ _ (by omega)]

set_option maxRecDepth 100000 in
set_option maxHeartbeats 2000000 in
theorem factors_core (b off k H cap : Nat) (g : Nat → Nat) (v : Nat) (w : World) (hrow : Row w b off (2 * H) (frw g)) (hfree : Free w b off (2 * H)) (hH : Hid (H = 2 ^ k)) (hk : k ≤ 10) (hH1 : H ≤ 1024) (hv : v < 998244353) :
    Calls Taig.prog 171 #[.slice (some ⟨b, off, none⟩) H cap, .int .u32 v] w fun e w' => ∃ rt, e = .returned (.tuple #[]) ∧ (∀ j, j < H → rt j < 998244353 ∧ Eqm (rt j) (v ^ j)) ∧ Row w' b off (2 * H) (frw rt) ∧ Wr b off (off + 2 * H) w w' := by
  have hH0 : 0 < H := by rw [unhide hH]; exact Nat.two_pow_pos k
  have hbl := hrow.block_lt (by omega)
  have c0 := hrow.cell (i := 0) (by omega)
  have c1 := hrow.cell (i := 1) (by omega)
  have f0 := hfree 0 (by omega)
  have f1 := hfree 1 (by omega)
  simp only [Nat.add_zero] at c0 f0
  go_enter Taig.func171, Taig.ntmps171
  go_wp2_with fail
  refine (factorOf_any 1 w (by decide)).mono ?_
  rintro e w1 ⟨rfl, hb1⟩
  unfold fac
  have c0' : w1.cell? ⟨b, off, none⟩ = some (frw g 0) := by rw [hb1.cell hbl]; exact c0
  have c1' : w1.cell? ⟨b, off + 1, none⟩ = some (frw g 1) := by rw [hb1.cell hbl]; exact c1
  have f0' : w1.frozen? ⟨b, off, none⟩ = false := by rw [hb1.frozen hbl]; exact f0
  have f1' : w1.frozen? ⟨b, off + 1, none⟩ = false := by rw [hb1.frozen hbl]; exact f1
  have hw1 : Wr b off (off + 2 * H) w w1 := Wr.of_below hb1 hbl
  have hrow1 := hrow.keep hb1
  have hrow2 := hrow1.fput 0 1 hH0 (o := off) (o' := off + 1) (z := 1) (z' := (rat 1 : Int)) (by omega) (by omega) rfl rfl
  have hw2 := (hw1.setCell (o := off) (by omega) (by omega) (.int .u32 1)).setCell (o := off + 1) (by omega) (by omega) (.int .u32 (rat 1 : Int))
  go_wp2
  clear c0' c1' f0' f1' c0 c1 f0 f1
  go_loopg [1, 4] (k + 1) (fun ga xv nv wr => ∃ (a N x : Nat) (rt : Nat → Nat), ga = k + 1 - a ∧ a ≤ k ∧ nv = .int .i64 N ∧ Hid (N = 2 ^ a) ∧ N ≤ H ∧ 0 < N ∧ xv = .int .u32 x ∧ x < 998244353 ∧ Hid (Eqm x (v ^ N)) ∧ Hid (∀ j, j < N → rt j < 998244353 ∧ Eqm (rt j) (v ^ j)) ∧ Row wr b off (2 * H) (frw rt) ∧ Wr b off (off + 2 * H) w wr)
  case atStart => exact ⟨0, 1, v, upd g 0 1, rfl, Nat.zero_le _, rfl, rfl, hH0, by decide, rfl, hv, by unfold Hid; rw [Nat.pow_one]; exact Eqm.refl _, fun j hj => by
    obtain rfl : j = 0 := by omega
    rw [upd_at, Nat.pow_zero]; exact ⟨by decide, Eqm.refl _⟩, hrow2, hw2⟩
  case round =>
    clear hrow2 hw2 hrow1 hw1
    obtain ⟨a, N, x, rt, rfl, ha, rfl, hNa, hNH, hN0, rfl, hx, hxe, hrt, hr, hwr⟩ := hrel
    by_cases hlt : N < H
    · have h2N : 2 * N ≤ H ∧ a + 1 ≤ k := by
        have h1 := unhide hNa
        have h2 := unhide hH
        have h3 : a < k := by
          rcases Nat.lt_or_ge a k with h | h
          · exact h
          · have := Nat.pow_le_pow_right (show 0 < 2 by decide) h
            omega
        refine ⟨?_, h3⟩
        have := Nat.pow_le_pow_right (show 0 < 2 by decide) h3
        rw [Nat.pow_succ] at this
        omega
      have KF := hide (factorOf_any x wr hx)
      go_wp2_with fail
      refine (unhide KF).mono ?_
      rintro e w3 ⟨rfl, hb3⟩
      unfold fac
      have hbl2 : b < wr.heap.size := Nat.lt_of_lt_of_le hbl hwr.size
      have hba := below_alloc w3 (.cells #[.int .u32 (x : Int), .int .u32 (rat x : Int)] 173)
      have s3 := hb3.size
      have hr4 := (hr.keep hb3).keep hba
      have hw4 : Wr b off (off + 2 * H) w (w3.alloc (.cells #[.int .u32 (x : Int), .int .u32 (rat x : Int)] 173)) := (hwr.trans (Wr.of_below hb3 hbl2)).trans (Wr.of_below hba (by omega))
      have hby : Row (w3.alloc (.cells #[.int .u32 (x : Int), .int .u32 (rat x : Int)] 173)) w3.heap.size 0 2 (frw fun _ => x) := row_new _ _ _ _ _ (fun i hi => by
        match i, hi with
        | 0, _ => rfl
        | 1, _ => rfl)
      go_wp2
      go_loopg [6] N (fun gj jv wr => ∃ (j : Nat) (rt2 : Nat → Nat), gj = N - j ∧ j ≤ N ∧ jv = .int .i64 j ∧ Hid (∀ i, i < N + j → rt2 i < 998244353 ∧ Eqm (rt2 i) (v ^ i)) ∧ Row wr b off (2 * H) (frw rt2) ∧ Row wr w3.heap.size 0 2 (frw fun _ => x) ∧ Wr b off (off + 2 * H) w wr)
      case atStart => exact ⟨0, rt, rfl, Nat.zero_le _, rfl, hrt, hr4, hby, hw4⟩
      case round =>
        clear hr4 hby hw4 hr hwr hrt
        obtain ⟨j, rt2, rfl, hj, rfl, hrt, hr, hby, hwr⟩ := hrel
        have hfr := hfree.wr hwr hbl
        by_cases hjN : j < N
        · have k1 := hr.cell (i := 2 * j) (by omega)
          rw [frw_even, Nat.mul_comm 2 j] at k1
          have k2 := hby.cell (i := 0) (by decide)
          have k3 := hby.cell (i := 1) (by decide)
          rw [show frw (fun _ => x) 0 = .int .u32 (x : Int) from rfl] at k2
          rw [show frw (fun _ => x) 1 = .int .u32 (rat x : Int) from rfl] at k3
          simp only [Nat.add_zero, Nat.zero_add] at k2 k3
          obtain ⟨q1, q2⟩ := unhide hrt j (by omega)
          have Q2 := hide q2
          clear q2
          have KT := hide (fun wx => times_any x (rt2 j) wx hx (by omega))
          unfold fac at KT
          have hby3 := hby.block_lt (by decide)
          have hNj : N + j < H := by omega
          have hblr : b < wr.heap.size := Nat.lt_of_lt_of_le hbl hwr.size
          have HC : Hid (∀ wa wb wc : World, wa.heap.size = wr.heap.size → (∀ a, wa.cell? a = wr.cell? a) → (∀ a, wa.frozen? a = wr.frozen? a) → Below wa.heap.size wa wb → Below wb.heap.size wb wc →
              wc.cell? ⟨b, off + (N + j) * 2, none⟩ = some (frw rt2 (2 * (N + j))) ∧ wc.cell? ⟨b, off + (N + j) * 2 + 1, none⟩ = some (frw rt2 (2 * (N + j) + 1)) ∧ wc.frozen? ⟨b, off + (N + j) * 2, none⟩ = false ∧ wc.frozen? ⟨b, off + (N + j) * 2 + 1, none⟩ = false) := by
            intro wa wb wc hs hc hf h1 h2
            have s1 := h1.size
            have s2 := h2.size
            have c1 := hr.cell (i := 2 * (N + j)) (by omega)
            have c2 := hr.cell (i := 2 * (N + j) + 1) (by omega)
            have f1 := hfr (2 * (N + j)) (by omega)
            have f2 := hfr (2 * (N + j) + 1) (by omega)
            rw [← Nat.add_assoc, Nat.mul_comm 2 (N + j)] at c2 f2
            rw [Nat.mul_comm 2 (N + j)] at c1 f1
            have z1 : b < wa.heap.size := by omega
            have z2 : b < wb.heap.size := by omega
            rw [h2.cell z2, h2.cell z2, h1.cell z1, h1.cell z1, hc, hc, h2.frozen z2, h2.frozen z2, h1.frozen z1, h1.frozen z1, hf, hf]
            rw [Nat.mul_comm 2 (N + j)]
            exact ⟨c1, c2, f1, f2⟩
          go_wp2
          go_region_with (first | (go_at_call 163; refine (unhide KT _).mono ?_; rintro e w' ⟨y, rfl, hy, hy2, hb5⟩) | (go_at_call 162; refine (fold_any _ _ (by assumption)).mono ?_; rintro e w' ⟨rfl, rfl⟩) | (go_at_call 161; refine (factorOf_any _ _ (Nat.mod_lt _ (by decide))).mono ?_; rintro e w'' ⟨rfl, hb6⟩; unfold fac; obtain ⟨z1,z2,z3,z4⟩ := unhide HC wr.drew _ _ rfl (fun _ => rfl) (fun _ => rfl) hb5 hb6))
          all_goals
            have r1 : Row w'' b off (2 * H) (frw rt2) := by refine Row.keep (Row.keep ?_ hb5) hb6; exact hr
            have r2 : Row w'' w3.heap.size 0 2 (frw fun _ => x) := by refine Row.keep (Row.keep ?_ hb5) hb6; exact hby
            have w5 : Wr b off (off + 2 * H) w w'' := (hwr.drew.trans (Wr.of_below hb5 hblr)).trans (Wr.of_below hb6 (Nat.lt_of_lt_of_le hblr hb5.size))
            have HE : Hid (y % 998244353 < 998244353 ∧ Eqm (y % 998244353) (v ^ (N + j))) := by
              refine ⟨Nat.mod_lt _ (by decide), (eqm_mod y).trans (hy2.trans ?_)⟩
              rw [Nat.add_comm N j, Nat.pow_add]
              exact (unhide Q2).mul (unhide hxe)
            clear hy2
            go_wp2
            go_roundg (N - (j + 1))
            case measure => omega
            case rel => exact ⟨j + 1, upd rt2 (N + j) (y % 998244353), rfl, by omega, by go_num, fun i hi => by
              by_cases e : i = N + j
              · subst e; rw [upd_at]; exact unhide HE
              · rw [upd_ne _ _ e]; exact unhide hrt i (by omega), r1.fput (N + j) (y % 998244353) hNj (by omega) (by omega) (by omega) rfl, (r2.setOther (.inl (by omega)) _).setOther (.inl (by omega)) _, (w5.setCell (by omega) (by omega) _).setCell (by omega) (by omega) _⟩
        · obtain rfl : j = N := by omega
          have KM := hide (mulMod_any x x wr (by omega) (by omega))
          go_wp2_with fail
          refine (unhide KM).mono ?_
          rintro e w' ⟨y, rfl, hy, hy2, rfl⟩
          have HY : Hid (Eqm y (v ^ (2 * j))) := by
            rw [Nat.two_mul, Nat.pow_add]
            exact hy2.trans ((unhide hxe).mul (unhide hxe))
          clear hy2
          have HN2 : Hid (2 * j = 2 ^ (a + 1)) := by unfold Hid; rw [Nat.pow_succ, unhide hNa]; omega
          go_wp2
          go_roundg (k + 1 - (a + 1))
          case measure => omega
          case rel => exact ⟨a + 1, 2 * j, y, rt2, rfl, by omega, by go_num, HN2, by omega, by omega, rfl, hy, HY, fun i hi => unhide hrt i (by omega), hr, hwr⟩
    · have HH : Hid (N = H) := by unfold Hid; omega
      go_wp2
      go_end0
      exact ⟨rt, rfl, fun j hj => unhide hrt j (by rw [unhide HH]; exact hj), hr, hwr⟩
end Go.Proofs.Ygctai
