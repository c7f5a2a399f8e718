/-
  mlong: blocks.
-/
import Derived.Test.YgctaiMA
namespace Go.Proofs.Ygctai
open Go.RowKit
set_option linter.unusedVariables false
attribute [local go_sem ↓] Go.wp_at_zero Go.wp_at_succ

theorem Taig.info133 : (Taig.prog.info? 133).map (fun i => (i.zero, i.size, i.bytes)) = some (some (.int .u32 0), 1, 4) := by kernel_rfl
/-- 'make([]ntt.Elem, n)'. -/
theorem make115 (n : Nat) (hn : n ≤ 1099511627776) (w : World) : (Instr.makeSlice 115 (.int .i64 (n : Int)) (.int .i64 (n : Int))).run Taig.prog w = .ok (.slice (some ⟨w.heap.size, 0, none⟩) n n) (w.alloc (made (.int .u32 0) n 133)) :=
  run_make_row' 115 133 (.int .u32 0) 4 Taig.underlying115 Taig.info133 rfl .i64 .i64 n (by omega) (by omega) w
theorem row_wmade (w : World) (n : Nat) : Row (w.alloc (made (.int .u32 0) n 133)) w.heap.size 0 n (wrd fun _ => 0) := row_made w _ n 133

/-- The first i digits laid out. -/
def sct (f : Nat → Nat) (s i : Nat) : Nat → Nat := fun p => if p % (2 * s) < s ∧ p / (2 * s) * s + p % (2 * s) < i then f (p / (2 * s) * s + p % (2 * s)) else 0

theorem sct_zero (f : Nat → Nat) (s p : Nat) : sct f s 0 p = 0 := if_neg (by omega)
theorem sct_step (f : Nat → Nat) {s i q r p : Nat} (hs : 0 < s) (hq : q = i / s) (hr : r = i % s) (hp : p = q * (2 * s) + r) (t : Nat) : upd (sct f s i) p (f i) t = sct f s (i + 1) t := by
  have h1 := Nat.div_add_mod i s
  have h2 := Nat.mod_lt i hs
  rw [← hq, ← hr] at h1
  rw [← hr] at h2
  have h3 := Nat.div_add_mod t (2 * s)
  have h4 := Nat.mod_lt t (show 0 < 2 * s by omega)
  by_cases e : t = p
  · subst e
    have e1 : t / (2 * s) = q := by rw [hp, Nat.mul_comm, Nat.mul_add_div (by omega), Nat.div_eq_of_lt (by omega), Nat.add_zero]
    have e2 : t % (2 * s) = r := by rw [hp, Nat.mul_comm, Nat.mul_add_mod, Nat.mod_eq_of_lt (by omega)]
    rw [upd_at]
    unfold sct
    rw [e1, e2, Nat.mul_comm q s, h1, if_pos ⟨h2, by omega⟩]
  · rw [upd_ne _ _ e]
    unfold sct
    by_cases c : t % (2 * s) < s ∧ t / (2 * s) * s + t % (2 * s) < i
    · rw [if_pos c, if_pos ⟨c.1, by omega⟩]
    · rw [if_neg c]
      refine (if_neg fun c2 => ?_).symm
      refine e ?_
      have h5 : t / (2 * s) * s + t % (2 * s) = i := by
        have : ¬ (t / (2 * s) * s + t % (2 * s) < i) := fun h => c ⟨c2.1, h⟩
        omega
      have e1 : t / (2 * s) = q := by rw [hq, ← h5, Nat.mul_comm (t / (2 * s)) s, Nat.mul_add_div hs, Nat.div_eq_of_lt c2.1, Nat.add_zero]
      have e2 : t % (2 * s) = r := by rw [hr, ← h5, Nat.mul_comm (t / (2 * s)) s, Nat.mul_add_mod, Nat.mod_eq_of_lt c2.1]
      rw [hp, ← e1, ← e2, Nat.mul_comm]; omega
theorem sct_bk (f : Nat → Nat) {s la c j : Nat} (hj : j < 2 * s) : sct f s la (c * (2 * s) + j) = bk f la s c j := by
  have e1 : (c * (2 * s) + j) / (2 * s) = c := by rw [Nat.mul_comm, Nat.mul_add_div (by omega), Nat.div_eq_of_lt hj, Nat.add_zero]
  have e2 : (c * (2 * s) + j) % (2 * s) = j := by rw [Nat.mul_comm, Nat.mul_add_mod, Nat.mod_eq_of_lt hj]
  unfold sct bk cutf
  rw [e1, e2]
  by_cases h : j < s
  · rw [if_pos h]
    by_cases h2 : c * s + j < la
    · rw [if_pos ⟨h, h2⟩, if_pos h2]
    · rw [if_neg (by omega), if_neg h2]
  · rw [if_neg (by omega), if_neg h]
/-- A row laid in. -/
def lay (Z : Nat → Nat) (s n : Nat) (Y : Nat → Nat) : Nat → Nat := fun i => if i < s then Z i else if i < s + n then Y (i - s) else Z i
theorem row_lay {w w' : World} {b off N s h : Nat} {Z Y : Nat → Nat} (hr : Row w b off N (wrd Z)) (h1 : Row w' b (off + s) h (wrd Y)) (hw : Wr b (off + s) (off + s + h) w w') : Row w' b off N (wrd (lay Z s h Y)) := fun i hi' => by
  unfold wrd lay
  split
  · rw [hw.cell _ (by omega)]; exact hr i hi'
  · split
    · have := h1 (i - s) (by omega)
      rw [show off + s + (i - s) = off + i by omega] at this
      exact this
    · rw [hw.cell _ (by omega)]; exact hr i hi'

set_option maxRecDepth 100000 in
set_option maxHeartbeats 1000000 in
theorem blocks_any (a : Option Addr) (la ca s k N cnt L : Nat) (f : Nat → Nat) (w : World) (hs : Sl w a la f) (hf : Byt f) (hk : k ≤ 10) (hk1 : 1 ≤ k) (hN : Hid (N = 2 ^ k)) (hN2 : 2 * s = N) (hs1 : 0 < s) (hs2 : s ≤ 512) (hla : 0 < la) (hla2 : la ≤ 8192) (hc : Hid (cnt = (la + s - 1) / s)) (hL : Hid (L = N * cnt)) (hL2 : L ≤ 20000) :
    Calls Taig.prog 105 #[.slice a la ca, .int .i64 s] w fun e w' => ∃ d Y, e = .returned (.slice (some ⟨d, 0, none⟩) L L) ∧ (∀ c j, c < cnt → j < N → Y (c * N + j) < 998244353 ∧ Eqm (Y (c * N + j)) (FM (rtk k) (bk f la s c) N j)) ∧ Row w' d 0 L (wrd Y) ∧ w.heap.size ≤ d ∧ Below w.heap.size w w' := by
  have e1 : ((la : Int) + (s : Int) - 1) / (s : Int) = (cnt : Int) := by
    rw [unhide hc, show (la : Int) + (s : Int) - 1 = ((la + s - 1 : Nat) : Int) by omega]; rfl
  have e2 : wrap64 (2 * (s : Int) * (cnt : Int)) = (L : Int) := by
    have : 2 * (s : Int) * (cnt : Int) = (L : Int) := by rw [unhide hL, ← hN2]; simp
    rw [this]; unfold wrap64; omega
  have hcl : Hid (la ≤ cnt * s) := by
    unfold Hid
    have h1 := Nat.div_add_mod (la + s - 1) s
    have h2 := Nat.mod_lt (la + s - 1) hs1
    rw [← unhide hc, Nat.mul_comm] at h1
    omega
  have hmk := make115 L (by omega)
  have HF := hide hf
  clear hf
  go_enter Taig.func105, Taig.ntmps105
  go_wp2
  go_loopg [7] la (fun gi iv wr => ∃ (i : Nat), gi = la - i ∧ i ≤ la ∧ iv = .int .i64 i ∧ Row wr w.heap.size 0 L (wrd (sct f s i)) ∧ Free wr w.heap.size 0 L ∧ Below w.heap.size w wr)
  case atStart => exact ⟨0, rfl, Nat.zero_le _, rfl, (row_wmade _ _).congr fun i _ => by rw [wrd_at, wrd_at, sct_zero], free_made _ _ _ _, below_alloc _ _⟩
  case round =>
    clear hmk e1 e2
    obtain ⟨i, rfl, hi, rfl, hr, hfr, hb⟩ := hrel
    by_cases hlt : i < la
    · have hsr := hs.keep hb
      obtain ⟨b0, off0, rfl, r0⟩ := hsr hla
      have c1 := r0.cell hlt
      simp only [oct_at] at c1
      have a1 := unhide HF i
      obtain ⟨x, hx⟩ : ∃ x, Hid (f i = x) := ⟨_, rfl⟩
      rw [unhide hx] at c1 a1
      obtain ⟨q, hq⟩ : ∃ q, Hid (q = i / s) := ⟨i / s, hide rfl⟩
      obtain ⟨r, hr2⟩ : ∃ r, Hid (r = i % s) := ⟨i % s, hide rfl⟩
      obtain ⟨z, hz⟩ : ∃ z, Hid (z = q * (2 * s)) := ⟨q * (2 * s), hide rfl⟩
      have g1 : (i : Int) / (s : Int) = (q : Int) := by rw [unhide hq]; rfl
      have g2 : (i : Int).tmod (s : Int) = (r : Int) := by rw [unhide hr2]; exact (Int.ofNat_tmod i s).symm
      have hzr : z + r < L := by
        have h1 : q < cnt := by rw [unhide hq, Nat.div_lt_iff_lt_mul hs1]; have := unhide hcl; omega
        have h2 : r < s := by rw [unhide hr2]; exact Nat.mod_lt _ hs1
        have h3 : (q + 1) * (2 * s) ≤ cnt * (2 * s) := Nat.mul_le_mul_right _ h1
        rw [unhide hL, unhide hz, Nat.mul_comm N, ← hN2]
        rw [Nat.add_mul] at h3; omega
      have hq2 : q ≤ 8192 := by rw [unhide hq]; exact Nat.le_trans (Nat.div_le_self _ _) (by omega)
      have g3 : IntKind.i64.wrap ((q : Int) * 2 * (s : Int)) = (z : Int) := by
        have : (q : Int) * 2 * (s : Int) = (z : Int) := by rw [unhide hz, Int.mul_assoc]; simp
        rw [this, IntKind.wrap_i64]; omega
      have c2 := hr.cell hzr
      have f2 := hfr (z + r) hzr
      rw [Nat.zero_add] at c2 f2
      have y1 : (0 : Int) ≤ (z : Int) + (r : Int) := by omega
      have y2 : (z : Int) + (r : Int) < (L : Int) := by omega
      go_wp2
      go_region
      all_goals
        go_wp2
        go_roundg (la - (i + 1))
        case measure => omega
        case rel => exact ⟨i + 1, rfl, by omega, by go_num, (hr.wput (z + r) x hzr (by omega) rfl).congr (fun t _ => by rw [wrd_at, wrd_at, ← unhide hx, sct_step f hs1 (unhide hq) (unhide hr2) (p := z + r) (by rw [unhide hz])]), (hfr.setCell _ _).drew, (hb.setCell (Nat.le_refl _) _).drew⟩
    · obtain rfl : i = la := by omega
      obtain ⟨d, hd⟩ : ∃ d, Hid (w.heap.size = d) := ⟨_, hide rfl⟩
      go_wp2
      go_loopg [8] cnt (fun gc iv wr => ∃ (c S : Nat) (Y : Nat → Nat), gc = cnt - c ∧ c ≤ cnt ∧ iv = .int .i64 S ∧ Hid (S = c * N) ∧ S ≤ L ∧ Hid (∀ c' j, c' < c → j < N → Y (c' * N + j) < 998244353 ∧ Eqm (Y (c' * N + j)) (FM (rtk k) (bk f i s c') N j)) ∧ Hid (∀ p, S ≤ p → Y p = sct f s i p) ∧ Row wr w.heap.size 0 L (wrd Y) ∧ Free wr w.heap.size 0 L ∧ Below w.heap.size w wr)
      case atStart => exact ⟨0, 0, _, rfl, Nat.zero_le _, rfl, by unfold Hid; omega, Nat.zero_le _, fun c' j h => absurd h (by omega), fun _ _ => rfl, hr, hfr, hb⟩
      case round =>
        clear hr hfr hb
        obtain ⟨c, S, Y, rfl, hcc, rfl, hS, hSL, hdo, hre, hr, hfr, hb⟩ := hrel
        by_cases hcl2 : c < cnt
        · have hS2 : S + N ≤ L := by
            have h3 : (c + 1) * N ≤ cnt * N := Nat.mul_le_mul_right _ hcl2
            rw [Nat.add_mul, Nat.one_mul, ← unhide hS, Nat.mul_comm cnt, ← unhide hL] at h3
            exact h3
          have hX : Hid (∀ j, j < N → Y (S + j) = bk f i s c j) := fun j hj => by
            rw [unhide hre _ (by omega), unhide hS, ← hN2]
            exact sct_bk f (by omega)
          have rs := (hr.shift (k := S) (m := N) (by omega)).congr (d := wrd (bk f i s c)) fun j hj => by rw [wrd_at, wrd_at, unhide hX j hj]
          have fs := hfr.shift (k := S) (m := N) (by omega)
          rw [Nat.zero_add] at rs fs
          have KF := hide (ntForward_core k N s w.heap.size S N (bk f i s c) wr hk hk1 hN hN2 (by omega) (Nat.le_refl _) (by omega) rs (fun j hj => Nat.lt_trans (bk_lt (unhide HF) _ _ _ _) (by decide)) fs)
          clear rs fs
          go_wp2_with fail
          refine (unhide KF).mono ?_
          rintro e w' ⟨Y2, rfl, hY2, r2, w2⟩
          have HY2 := hide hY2
          clear hY2
          go_wp2
          go_roundg (cnt - (c + 1))
          case measure => omega
          case rel => exact ⟨c + 1, S + N, lay Y S N Y2, rfl, by omega, by go_num, by unfold Hid; rw [Nat.add_mul, Nat.one_mul, unhide hS], hS2, fun c' j h1 h2 => by
            by_cases e : c' = c
            · subst e
              rw [← unhide hS]
              unfold lay
              rw [if_neg (by omega), if_pos (by omega), Nat.add_sub_cancel_left]
              exact unhide HY2 j h2
            · have h3 : (c' + 1) * N ≤ c * N := Nat.mul_le_mul_right _ (by omega)
              rw [Nat.add_mul, Nat.one_mul, ← unhide hS] at h3
              unfold lay
              rw [if_pos (by omega)]
              exact unhide hdo c' j (by omega) h2, fun p hp => by
            unfold lay
            rw [if_neg (by omega), if_neg (by omega)]; exact unhide hre p (by omega), row_lay hr (by rw [Nat.zero_add]; exact r2) (by rw [Nat.zero_add]; exact w2), hfr.wr w2 (hr.block_lt (by omega)), w2.below hb (Nat.le_refl _) hb.size⟩
        · obtain rfl : c = cnt := by omega
          obtain rfl : S = L := by rw [unhide hS, unhide hL, Nat.mul_comm]
          go_wp2
          go_ret
          exact ⟨w.heap.size, Y, rfl, unhide hdo, hr, Nat.le_refl _, hb⟩
end Go.Proofs.Ygctai
