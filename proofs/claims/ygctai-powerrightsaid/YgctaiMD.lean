/-
  mlong: addBack.
-/
import Derived.Test.YgctaiMC
namespace Go.Proofs.Ygctai
open Go.RowKit
set_option linter.unusedVariables false
attribute [local go_sem ↓] Go.wp_at_zero Go.wp_at_succ

set_option maxRecDepth 100000 in
set_option maxHeartbeats 1000000 in
theorem addBack_core (bc oc b1 b0 k N H : Nat) (C B0 S : Nat → Nat) (w : World) (hk : k ≤ 10) (hk1 : 1 ≤ k) (hN : Hid (N = 2 ^ k)) (hH2 : 2 * H = N) (hN2 : N ≤ 1024) (hrc : Row w bc oc N (lng C)) (hfc : Free w bc oc N) (hrb : Row w b1 0 N (wrd B0)) (hfb : Free w b1 0 N) (hrs : Row w b0 0 N (qwd S))
    (hd1 : b1 ≠ bc) (hd2 : b0 ≠ b1) (hS : ∀ j, j < N → S j < 998244353) (hC : ∀ j, j < N → C j < 1099511627776) :
    Calls Taig.prog 129 #[.slice (some ⟨bc, oc, none⟩) N N, .slice (some ⟨b1, 0, none⟩) N N, .slice (some ⟨b0, 0, none⟩) N N] w fun e w' => ∃ Y : Nat → Nat, e = .returned (.tuple #[]) ∧ (∀ j, j < N → Y j < 998244353 ∧ Eqm (Y j * N) (FM (irt k) S N j)) ∧ Row w' bc oc N (lng fun j => C j + Y j) ∧ (∃ B1, Row w' b1 0 N (wrd B1)) ∧ (∃ w1, Wr b1 0 (0 + N) w w1 ∧ Wr bc oc (oc + N) w1 w') := by
  have HS := hide hS
  have HC := hide hC
  clear hS hC
  have hN0 : 0 < N := by rw [unhide hN]; exact Nat.two_pow_pos k
  have hbl1 := hrb.block_lt hN0
  have hblc := hrc.block_lt hN0
  go_enter Taig.func129, Taig.ntmps129
  go_wp2
  go_loopg [6] N (fun gj jv wr => ∃ (j : Nat) (B : Nat → Nat), gj = N - j ∧ j ≤ N ∧ jv = .int .i64 j ∧ Hid (∀ t, t < j → B t = S t) ∧ Row wr b1 0 N (wrd B) ∧ Wr b1 0 (0 + N) w wr)
  case atStart => exact ⟨0, B0, rfl, Nat.zero_le _, rfl, fun t h => absurd h (by omega), hrb, Wr.refl _ _ _ _⟩
  case round =>
    obtain ⟨j, B, rfl, hj, rfl, hdo, hr1, hw1⟩ := hrel
    by_cases hjl : j < N
    · have c1 := hr1.cell hjl
      have f1 := (hfb.wr hw1 hbl1) j hjl
      have c2 := (hrs.wr hw1 (.inl hd2)).cell hjl
      rw [Nat.zero_add] at c1 c2 f1
      simp only [qwd_at, wrd_at] at c1 c2
      have a1 := unhide HS j hjl
      obtain ⟨u, hu⟩ : ∃ u, Hid (S j = u) := ⟨_, rfl⟩
      rw [unhide hu] at c2 a1
      go_wp2
      go_roundg (N - (j + 1))
      case measure => omega
      case rel => exact ⟨j + 1, upd B j u, rfl, by omega, by go_num, fun t ht => by
        by_cases e : t = j
        · subst e; rw [upd_at, unhide hu]
        · rw [upd_ne _ _ e]; exact unhide hdo t (by omega), hr1.wput j u hjl (by omega) (by first | rfl | omega), hw1.setCell (by omega) (by omega) _⟩
    · obtain rfl : j = N := by omega
      have KI := hide (ntInverse_core k j H b1 0 j S wr hk hk1 hN hH2 hN2 (Nat.le_refl _) (by omega) (hr1.congr fun t ht => by rw [wrd_at, wrd_at, unhide hdo t ht]) (unhide HS) (hfb.wr hw1 hbl1))
      go_wp2_with fail
      refine (unhide KI).mono ?_
      rintro e w2 ⟨Y, rfl, hY, hr2, hw2⟩
      have HY := hide hY
      clear hY
      have hw3 := hw1.trans hw2
      have hrc2 := hrc.wr hw3 (.inl (Ne.symm hd1))
      have hfc2 := hfc.wr hw3 hblc
      clear hr1 hw1 hw2
      have hl2 := hrc2.block_lt hN0
      go_wp2
      go_loopg [7] j (fun gj jv wr => ∃ (q : Nat) (D : Nat → Nat), gj = j - q ∧ q ≤ j ∧ jv = .int .i64 q ∧ Hid (∀ t, t < q → D t = C t + Y t) ∧ Hid (∀ t, q ≤ t → D t = C t) ∧ Row wr bc oc j (lng D) ∧ Wr bc oc (oc + j) w2 wr)
      case atStart => exact ⟨0, C, rfl, Nat.zero_le _, rfl, fun t h => absurd h (by omega), fun _ _ => rfl, hrc2, Wr.refl _ _ _ _⟩
      case round =>
        obtain ⟨q, D, rfl, hq, rfl, hdo2, hre, hr4, hw4⟩ := hrel
        by_cases hql : q < j
        · have c1 := hr4.cell hql
          have f1 := (hfc2.wr hw4 hl2) q hql
          have c2 := (hr2.wr hw4 (.inl hd1)).cell hql
          rw [Nat.zero_add] at c2
          simp only [lng_at, wrd_at] at c1 c2
          rw [unhide hre q (Nat.le_refl _)] at c1
          have a1 := (unhide HY q hql).1
          have a2 := unhide HC q hql
          obtain ⟨u, hu⟩ : ∃ u, Hid (C q = u) := ⟨_, rfl⟩
          obtain ⟨y, hy⟩ : ∃ y, Hid (Y q = y) := ⟨_, rfl⟩
          rw [unhide hu] at c1 a2
          rw [unhide hy] at c2 a1
          have e1 : IntKind.i64.wrap ((u : Int) + (y : Int)) = ((u + y : Nat) : Int) := by rw [IntKind.wrap_i64]; omega
          go_wp2
          go_region
          all_goals
            go_wp2
            go_roundg (j - (q + 1))
            case measure => omega
            case rel => exact ⟨q + 1, upd D q (u + y), rfl, by omega, by go_num, fun t ht => by
              by_cases e : t = q
              · subst e; rw [upd_at, unhide hu, unhide hy]
              · rw [upd_ne _ _ e]; exact unhide hdo2 t (by omega), fun t ht => by rw [upd_ne _ _ (by omega)]; exact unhide hre t (by omega), hr4.lput q (u + y) hql rfl (by first | rfl | omega), (hw4.setCell (by omega) (by omega) _).drew⟩
        · obtain rfl : q = j := by omega
          go_wp2
          go_end0
          exact ⟨Y, rfl, unhide HY, hr4.congr (fun t ht => by rw [lng_at, lng_at, unhide hdo2 t ht]), ⟨Y, hr2.wr hw4 (.inl hd1)⟩, w2, hw3, hw4⟩
end Go.Proofs.Ygctai
