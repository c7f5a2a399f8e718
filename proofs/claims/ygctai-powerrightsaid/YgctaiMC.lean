/-
  mlong: products, addBack.
-/
import Derived.Test.YgctaiMB
import Derived.Lib.SliceRun
namespace Go.Proofs.Ygctai
open Go.RowKit
set_option linter.unusedVariables false
attribute [local go_sem ↓] Go.wp_at_zero Go.wp_at_succ

/-- Words of 64 bits as values. -/
def qwd (f : Nat → Nat) : Nat → Value := fun i => .int .u64 (f i)
theorem qwd_at (f : Nat → Nat) (i : Nat) : qwd f i = .int .u64 (f i) := rfl
theorem upd_qwd (f : Nat → Nat) (i v : Nat) : upd (qwd f) i (.int .u64 v) = qwd (upd f i v) := by
  funext j; unfold upd qwd; dsimp only; split <;> rfl
theorem Row.qput {w : World} {b off n : Nat} {f : Nat → Nat} (h : Row w b off n (qwd f)) (i v : Nat) {o : Nat} {z : Int} (hi : i < n) (ho : o = off + i) (hz : z = v) : Row (w.setCell ⟨b, o, none⟩ (.int .u64 z)) b off n (qwd (upd f i v)) := by
  subst ho; subst hz; rw [← upd_qwd]; exact h.setCell hi _
theorem Taig.info32 : (Taig.prog.info? 32).map (fun i => (i.zero, i.size, i.bytes)) = some (some (.int .u64 0), 1, 8) := by kernel_rfl
theorem make140 (n : Nat) (hn : n ≤ 1099511627776) (w : World) : (Instr.makeSlice 140 (.int .i64 (n : Int)) (.int .i64 (n : Int))).run Taig.prog w = .ok (.slice (some ⟨w.heap.size, 0, none⟩) n n) (w.alloc (made (.int .u64 0) n 32)) :=
  run_make_row' 140 32 (.int .u64 0) 8 Taig.underlying140 Taig.info32 rfl .i64 .i64 n (by omega) (by omega) w
theorem row_qmade (w : World) (n : Nat) : Row (w.alloc (made (.int .u64 0) n 32)) w.heap.size 0 n (qwd fun _ => 0) := row_made w _ n 32
theorem clear_qwd (ty : TypeId) (w : World) (b off n c : Nat) (g : Nat → Nat) (hn : 0 < n) (hd : Row w b off n (qwd g)) (hf : Free w b off n) :
    ∃ w', (Builtin.clear_ #[140] ty #[.slice (some ⟨b, off, none⟩) n c]).run Taig.prog w = .ok (.tuple #[]) w' ∧ Wr b off (off + n) w w' ∧ Row w' b off n (qwd fun _ => 0) := by
  obtain ⟨i, hi, hz, hs, hb⟩ := info_parts Taig.info32
  have hv : ∀ w, (zeroValue 32).run Taig.prog w = .ok (.int .u64 0) w := fun w => by simp [zeroValue, typeInfo, hi, hz]
  refine ⟨_, Lib.run_clear_slice w 140 32 ty (.int .u64 0) Taig.underlying140 hv rfl rfl b off n c hn (fun j hj => by rw [hd j hj]; rfl) (fun i hi => hf i hi), ?_, fun i hi => ?_⟩
  · have := wr_setCells b (List.replicate n (Value.int .u64 0)) off w
    simpa using this
  · have := World.cell?_setCells_in b (List.replicate n (Value.int .u64 0)) off w (fun j hj => by simp at hj; rw [hd j hj]; rfl) i (by simpa using hi)
    rw [this]; simp [qwd]

/-- The greatest product of two entries. -/
def PQ : Nat := 998244352 * 998244352
theorem pq_16 : 16 * PQ < 18446744073709551616 := by decide
theorem pq_mul {x y : Nat} (hx : x < 998244353) (hy : y < 998244353) : x * y ≤ PQ := by
  unfold PQ
  have := Nat.mul_le_mul (show x ≤ 998244352 by omega) (show y ≤ 998244352 by omega)
  omega
/-- The products summed at j. -/
def prs (X Y : Nat → Nat) (N lo m j : Nat) (t : Nat) : Nat := X ((lo + t) * N + j) * Y ((m - (lo + t)) * N + j)

set_option maxRecDepth 100000 in
set_option maxHeartbeats 1000000 in
theorem products_core (b0 d1 d2 N L1 L2 lo hi m : Nat) (S0 X Y : Nat → Nat) (w : World) (hr0 : Row w b0 0 N (qwd S0)) (hf0 : Free w b0 0 N) (hrx : Row w d1 0 L1 (wrd X)) (hry : Row w d2 0 L2 (wrd Y)) (hb1 : d1 ≠ b0) (hb2 : d2 ≠ b0)
    (hlo : lo < hi) (hc : hi - lo ≤ 16) (hhi : hi ≤ m + 1) (hm : m ≤ 64) (hN0 : 0 < N) (hN : N ≤ 1024) (hL1 : hi * N ≤ L1) (hL2 : (m - lo + 1) * N ≤ L2) (hL1' : L1 ≤ 20000) (hL2' : L2 ≤ 20000) (hX : ∀ p, p < L1 → X p < 998244353) (hY : ∀ p, p < L2 → Y p < 998244353) :
    Calls Taig.prog 128 #[.slice (some ⟨b0, 0, none⟩) N N, .slice (some ⟨d1, 0, none⟩) L1 L1, .slice (some ⟨d2, 0, none⟩) L2 L2, .int .i64 lo, .int .i64 hi, .int .i64 m] w fun e w' => ∃ S, e = .returned (.tuple #[]) ∧ (∀ j, j < N → S j < 998244353 ∧ Eqm (S j) (nsum (prs X Y N lo m j) (hi - lo))) ∧ Row w' b0 0 N (qwd S) ∧ Wr b0 0 (0 + N) w w' := by
  have HX := hide hX
  have HY := hide hY
  have HL1 := hide hL1
  have HL2 := hide hL2
  clear hX hY hL1 hL2
  have hbl := hr0.block_lt hN0
  obtain ⟨w1, hrun, hw1, hr1⟩ := clear_qwd 0 w b0 0 N N S0 hN0 hr0 hf0
  go_enter Taig.func128, Taig.ntmps128
  go_wp2
  go_loopg [13] (hi - lo) (fun gi iv wr => ∃ (i : Nat) (S : Nat → Nat), gi = hi - i ∧ lo ≤ i ∧ i ≤ hi ∧ iv = .int .i64 i ∧ Hid (∀ j, j < N → Eqm (S j) (nsum (prs X Y N lo m j) (i - lo)) ∧ S j ≤ (i - lo) * PQ ∧ (i = hi → S j < 998244353)) ∧ Row wr b0 0 N (qwd S) ∧ Wr b0 0 (0 + N) w wr)
  case atStart => exact ⟨lo, _, rfl, Nat.le_refl _, by omega, rfl, fun j _ => ⟨by rw [Nat.sub_self]; exact Eqm.refl _, Nat.zero_le _, fun _ => by decide⟩, hr1, hw1⟩
  case round =>
    clear hrun hr1 hw1
    obtain ⟨i, S, rfl, hi1, hi2, rfl, hS, hr1, hw1⟩ := hrel
    by_cases hlt : i < hi
    · obtain ⟨mi, hmi⟩ : ∃ mi, Hid (mi = m - i) := ⟨m - i, hide rfl⟩
      obtain ⟨s1, hs1⟩ : ∃ s1, Hid (s1 = i * N) := ⟨i * N, hide rfl⟩
      obtain ⟨s2, hs2⟩ : ∃ s2, Hid (s2 = mi * N) := ⟨mi * N, hide rfl⟩
      have hsL1 : s1 + N ≤ L1 := by
        have h3 : (i + 1) * N ≤ hi * N := Nat.mul_le_mul_right _ hlt
        rw [Nat.add_mul, Nat.one_mul, ← unhide hs1] at h3
        have := unhide HL1; omega
      have hsL2 : s2 + N ≤ L2 := by
        have h3 : (mi + 1) * N ≤ (m - lo + 1) * N := Nat.mul_le_mul_right _ (by have := unhide hmi; omega)
        rw [Nat.add_mul, Nat.one_mul, ← unhide hs2] at h3
        have := unhide HL2; omega
      have e0 : IntKind.i64.wrap ((m : Int) - (i : Int)) = (mi : Int) := by rw [IntKind.wrap_i64]; have := unhide hmi; omega
      have e1 : IntKind.i64.wrap ((i : Int) * (N : Int)) = (s1 : Int) := by
        have : (i : Int) * (N : Int) = (s1 : Int) := by rw [unhide hs1]; simp
        rw [this, IntKind.wrap_i64]; omega
      have e2 : IntKind.i64.wrap ((mi : Int) * (N : Int)) = (s2 : Int) := by
        have : (mi : Int) * (N : Int) = (s2 : Int) := by rw [unhide hs2]; simp
        rw [this, IntKind.wrap_i64]; omega
      have e3 : IntKind.i64.wrap ((s1 : Int) + (N : Int)) = (s1 : Int) + (N : Int) := by rw [IntKind.wrap_i64]; omega
      have e4 : IntKind.i64.wrap ((s2 : Int) + (N : Int)) = (s2 : Int) + (N : Int) := by rw [IntKind.wrap_i64]; omega
      have y1 : (s1 : Int) + (N : Int) ≤ (L1 : Int) := by omega
      have y2 : (s2 : Int) + (N : Int) ≤ (L2 : Int) := by omega
      have y3 : (0 : Int) ≤ (s1 : Int) + (N : Int) := by omega
      have y4 : (0 : Int) ≤ (s2 : Int) + (N : Int) := by omega
      go_wp2
      go_quiet (fail)
      simp only [Nat.add_sub_cancel_left]
      clear e0 e1 e2 e3 e4 y1 y2 y3 y4
      go_wp2
      go_loopg [16] N (fun gj jv wr => ∃ (j : Nat) (S2 : Nat → Nat), gj = N - j ∧ j ≤ N ∧ jv = .int .i64 j ∧ Hid (∀ t, t < j → S2 t = S t + X (s1 + t) * Y (s2 + t)) ∧ Hid (∀ t, j ≤ t → S2 t = S t) ∧ Row wr b0 0 N (qwd S2) ∧ Wr b0 0 (0 + N) w wr)
      case atStart => exact ⟨0, S, rfl, Nat.zero_le _, rfl, fun t h => absurd h (by omega), fun _ _ => rfl, hr1.drewN nq, wrN hw1 nq⟩
      case round =>
        clear hr1 hw1
        obtain ⟨j, S2, rfl, hj, rfl, hdo, hre, hr1, hw1⟩ := hrel
        by_cases hjl : j < N
        · have c1 := hr1.cell hjl
          have f1 := (hf0.wr hw1 hbl) j hjl
          have c2 := (hrx.wr hw1 (.inl hb1)).cell (i := s1 + j) (by omega)
          have c3 := (hry.wr hw1 (.inl hb2)).cell (i := s2 + j) (by omega)
          rw [Nat.zero_add] at c1 c2 c3 f1
          simp only [qwd_at, wrd_at] at c1 c2 c3
          rw [unhide hre j (Nat.le_refl _)] at c1
          have a2 := unhide HX (s1 + j) (by omega)
          have a3 := unhide HY (s2 + j) (by omega)
          have a1 := (unhide hS j hjl).2.1
          obtain ⟨x, hx⟩ : ∃ x, Hid (X (s1 + j) = x) := ⟨_, rfl⟩
          obtain ⟨y, hy⟩ : ∃ y, Hid (Y (s2 + j) = y) := ⟨_, rfl⟩
          obtain ⟨u, hu⟩ : ∃ u, Hid (S j = u) := ⟨_, rfl⟩
          rw [unhide hx] at c2 a2
          rw [unhide hy] at c3 a3
          rw [unhide hu] at c1 a1
          obtain ⟨z, hz⟩ : ∃ z, Hid (z = x * y) := ⟨x * y, hide rfl⟩
          have hzq : z ≤ PQ := by rw [unhide hz]; exact pq_mul a2 a3
          have huz : Hid (u + z < 18446744073709551616) := by
            have h1 := Nat.mul_le_mul_right PQ (show i - lo ≤ 15 by omega)
            have h2 := pq_16
            unfold Hid; omega
          have HA1 := hide a1
          have HZQ := hide hzq
          clear a1 hzq
          have a2' : (x : Int) < 4294967296 := by omega
          have a3' : (y : Int) < 4294967296 := by omega
          clear a2 a3
          have e5 : IntKind.u64.wrap ((x : Int) * (y : Int)) = (z : Int) := by
            have : (x : Int) * (y : Int) = (z : Int) := by rw [unhide hz]; simp
            rw [this, IntKind.wrap_u64]; have := unhide huz; omega
          have e6 : IntKind.u64.wrap ((u : Int) + (z : Int)) = ((u + z : Nat) : Int) := by rw [IntKind.wrap_u64]; have := unhide huz; omega
          go_wp2
          go_region
          all_goals
            go_wp2
            go_roundg (N - (j + 1))
            case measure => omega
            case rel => exact ⟨j + 1, upd S2 j (u + z), rfl, by omega, by go_num, fun t ht => by
              by_cases e : t = j
              · subst e; rw [upd_at, unhide hx, unhide hy, unhide hu, unhide hz]
              · rw [upd_ne _ _ e]; exact unhide hdo t (by omega), fun t ht => by rw [upd_ne _ _ (by omega)]; exact unhide hre t (by omega), hr1.qput j (u + z) hjl (by omega) rfl, (hw1.setCell (by omega) (by omega) _).drew⟩
        · obtain rfl : j = N := by omega
          have HS2 : Hid (∀ t, t < j → Eqm (S2 t) (nsum (prs X Y j lo m t) (i + 1 - lo)) ∧ S2 t ≤ (i + 1 - lo) * PQ) := fun t ht => by
            obtain ⟨q1, q2, _⟩ := unhide hS t ht
            have z1 := unhide HX (s1 + t) (by omega)
            have z2 := unhide HY (s2 + t) (by omega)
            rw [unhide hdo t ht, show i + 1 - lo = i - lo + 1 by omega, nsum, Nat.add_mul, Nat.one_mul]
            refine ⟨q1.add ?_, Nat.add_le_add q2 (pq_mul z1 z2)⟩
            unfold prs
            rw [show lo + (i - lo) = i by omega, ← unhide hmi, ← unhide hs1, ← unhide hs2]
            exact Eqm.refl _
          clear hS hdo hre
          obtain ⟨t, ht⟩ : ∃ t, Hid (t = i - lo) := ⟨i - lo, hide rfl⟩
          have htl : t ≤ 15 := by have := unhide ht; omega
          have e8 : ((i : Int) - (lo : Int)).tmod 16 = (t : Int) := by
            rw [show (i : Int) - (lo : Int) = (t : Int) by have := unhide ht; omega, Int.tmod_eq_emod_of_nonneg (by omega)]; omega
          by_cases hlast : i + 1 < hi
          · have b1 : ((t : Int) == 15) = false := by rw [beq_eq_false_iff_ne]; have := unhide ht; omega
            have b2 : ((i : Int) == (hi : Int) - 1) = false := by rw [beq_eq_false_iff_ne]; omega
            go_wp2
            go_roundg (hi - (i + 1))
            case measure => omega
            case rel => exact ⟨i + 1, S2, rfl, by omega, by omega, by go_num, fun t ht => ⟨(unhide HS2 t ht).1, (unhide HS2 t ht).2, fun h => absurd h (by omega)⟩, hr1, hw1⟩
          · have b2 : ((i : Int) == (hi : Int) - 1) = true := by rw [beq_iff_eq]; omega
            have hb1 : ((t : Int) == 15) = true ∨ ((t : Int) == 15) = false := by cases ((t : Int) == 15) <;> simp
            obtain ⟨wo, rfl⟩ : ∃ x, x = wr := ⟨wr, rfl⟩
            rcases hb1 with b1 | b1
            all_goals
              go_wp2
              go_loopg [17] j (fun gj jv wr => ∃ (q : Nat) (S3 : Nat → Nat), gj = j - q ∧ q ≤ j ∧ jv = .int .i64 q ∧ Hid (∀ t, t < q → S3 t = S2 t % 998244353) ∧ Hid (∀ t, q ≤ t → S3 t = S2 t) ∧ Row wr b0 0 j (qwd S3) ∧ Wr b0 0 (0 + j) w wr)
              case atStart => exact ⟨0, S2, rfl, Nat.zero_le _, rfl, fun t h => absurd h (by omega), fun _ _ => rfl, hr1, hw1⟩
              case round =>
                clear hr1 hw1
                obtain ⟨q, S3, rfl, hq, rfl, hdo, hre, hr1, hw1⟩ := hrel
                by_cases hql : q < j
                · have c1 := hr1.cell hql
                  have f1 := (hf0.wr hw1 hbl) q hql
                  rw [Nat.zero_add] at c1 f1
                  simp only [qwd_at] at c1
                  rw [unhide hre q (Nat.le_refl _)] at c1
                  obtain ⟨u, hu⟩ : ∃ u, Hid (S2 q = u) := ⟨_, rfl⟩
                  rw [unhide hu] at c1
                  have e9 : (u : Int).tmod 998244353 = ((u % 998244353 : Nat) : Int) := by rw [Int.tmod_eq_emod_of_nonneg (by omega)]; omega
                  go_wp2
                  go_roundg (j - (q + 1))
                  case measure => omega
                  case rel => exact ⟨q + 1, upd S3 q (u % 998244353), rfl, by omega, by go_num, fun t ht => by
                    by_cases e : t = q
                    · subst e; rw [upd_at, unhide hu]
                    · rw [upd_ne _ _ e]; exact unhide hdo t (by omega), fun t ht => by rw [upd_ne _ _ (by omega)]; exact unhide hre t (by omega), hr1.qput q (u % 998244353) hql (by omega) (by first | rfl | omega), hw1.setCell (by omega) (by omega) _⟩
                · obtain rfl : q = j := by omega
                  go_wp2
                  go_roundg (hi - (i + 1))
                  case measure => omega
                  case rel => exact ⟨i + 1, S3, rfl, by omega, by omega, by go_num, fun t ht => by
                    rw [unhide hdo t ht]
                    exact ⟨(eqm_mod _).trans (unhide HS2 t ht).1, Nat.le_trans (Nat.mod_le _ _) (unhide HS2 t ht).2, fun _ => Nat.mod_lt _ (by decide)⟩, hr1, hw1⟩
    · obtain rfl : i = hi := by omega
      have HS2 : Hid (∀ j, j < N → Eqm (S j) (nsum (prs X Y N lo m j) (i - lo)) ∧ S j < 998244353) := fun j hj => ⟨(unhide hS j hj).1, (unhide hS j hj).2.2 rfl⟩
      clear hS
      go_wp2
      go_end0
      exact ⟨S, rfl, fun j hj => ⟨(unhide HS2 j hj).2, (unhide HS2 j hj).1⟩, hr1, hw1⟩
end Go.Proofs.Ygctai
