/-
  law.FactorialRight.
-/
import Derived.Test.YgctaiQT
import Derived.Test.YgctaiQZ
namespace Go.Proofs.Ygctai
open Go.RowKit
set_option linter.unusedVariables false

theorem neqNil43 (w : World) : (binOp .neq 43 (.slice none 0 0) (.slice none 0 0)).run Taig.prog w = .ok (.bool false) w := by
  have h : (binOp .eql 43 (.slice none 0 0) (.slice none 0 0)).run Taig.prog w = .ok (.bool true) w := Lib.run_eql_slice_nil w 43 74 none 0 0 0 0 Taig.underlying43
  simp only [binOp] at h ⊢
  simp only [Sem.run_bind, Sem.run_pure] at h ⊢
  generalize Sem.run Taig.prog (Op.equal 43 (Value.slice none 0 0) (Value.slice none 0 0)) w = R at h ⊢
  cases R <;> simp_all [Result.andThen]

theorem u16_nat {a : Int} (h : (Lit.int .u16 a).wf = true) : ∃ n : Nat, a = (n : Int) ∧ n < 65536 := by
  simp [Lit.wf, IntKind.min, IntKind.max, IntKind.signed, IntKind.bits] at h
  exact ⟨a.toNat, by omega, by omega⟩

theorem nt_one (w : World) : Nt (w.alloc (.cells #[.int .u8 1] 5)) 0 (some ⟨w.heap.size, 0, none⟩) 1 :=
  ⟨fun h => absurd h (by decide), fun _ => ⟨_, 0, rfl, Nat.zero_le _, (row_one w).congr (fun i hi => by
    have : dlen 1 = 1 := by decide
    obtain rfl : i = 0 := by omega
    rfl), free_new _ _ _ _⟩⟩

theorem fct_step {j : Nat} (h : 1 ≤ j) : fct (j - 1) * j = fct j := by
  obtain ⟨i, rfl⟩ : ∃ i, j = i + 1 := ⟨j - 1, by omega⟩
  rfl

set_option maxRecDepth 100000 in
set_option maxHeartbeats 2000000 in
theorem fact_any (n : Nat) (w : World) (hn : n < 65536) :
    Calls Taig.prog 10 #[.int .u16 (n : Int)] w fun e w' => e = .returned (.bool true) ∧ Below w.heap.size w w' := by
  have K := hide (factorial_any n w hn)
  go_enter Taig.func10, Taig.ntmps10
  go_wp2_with fail
  refine (unhide K).mono ?_
  rintro e w1 (⟨a, m, cap, ks, vs, rfl, hm, hsc, hrun, hb1⟩ | ⟨rfl, hlong, hb1⟩)
  · have HSC := hide hsc
    have HRUN := hide hrun
    have K32 := hide (tower_any a m cap ks vs w1 hsc hm)
    have eM : decide ((128 : Int) < (m : Int)) = false := by simp; omega
    clear hsc hrun
    go_wp2_with fail
    refine (unhide K32).mono ?_
    rintro e w2 ⟨rfl, hb2⟩
    have bw3 : Below w1.heap.size w1 (w2.alloc (.cells #[.int .u8 1] 5)) := hb2.alloc hb2.size _
    have n3 := hide (nt_one w2)
    have d1 : Hid (dlen (fct (1 - 1)) = 1) := (by decide : dlen (fct 0) = 1)
    clear K32 K
    go_wp2_with fail
    generalize (w2.alloc (.cells #[.int .u8 1] 5)) = w3 at *
    go_loopg [5, 6] (n + 1) (fun gk wv jv wr => ∃ (j L : Nat) (d : Option Addr), gk = n + 2 - j ∧ 1 ≤ j ∧ j ≤ n + 1 ∧ wv = .slice d L L ∧ jv = .int .i64 (j : Int) ∧ Hid (dlen (fct (j - 1)) = L) ∧ Hid (Nt wr 0 d (fct (j - 1))) ∧ Below w1.heap.size w1 wr)
    case atStart => exact ⟨1, 1, _, rfl, by omega, by omega, rfl, rfl, d1, n3, bw3⟩
    case round =>
      clear d1 n3 bw3
      obtain ⟨j, L, d, rfl, hj1, hj2, rfl, rfl, HL, HN, hbr⟩ := hrel
      by_cases cj : j ≤ n ∧ L ≤ 512
      · have cj1 := cj.1
        have cj2 := cj.2
        have lj : dlen j ≤ 8 := (dlen_le_iff j 8).2 (by omega)
        have cv : IntKind.u64.wrap (j : Int) = (j : Int) := by rw [IntKind.wrap_u64]; omega
        have K21 := hide (whole_any j (by omega) wr)
        clear cj
        go_wp2_with fail
        refine (unhide K21).mono ?_
        rintro e w4 ⟨c, rfl, hc, hb4⟩
        have K23 := mul_any d c L L (dlen j) (dlen j) (dig (fct (j - 1))) (dig j) w4 (by have := ((unhide HN).keep hb4).sl; rw [unhide HL] at this; exact this) hc.sl (byt_dig _) (byt_dig _) (Nat.le_refl _) (Nat.le_refl _) (by omega) (by omega) (by omega) (by omega)
        rw [val_dig_dlen, ← unhide HL, val_dig_dlen, fct_step hj1, unhide HL] at K23
        have HK := hide K23
        clear K23 K21 hc lj
        go_wp2_with fail
        refine (unhide HK).mono ?_
        rintro e w5 ⟨d5, rfl, hn5, hb5⟩
        have HN5 := hide (hn5.mono (Nat.zero_le _))
        have b5 : Below w1.heap.size w1 w5 := hbr.trans ((hb4.trans (hb5.mono hb4.size)).mono hbr.size)
        obtain ⟨L5, HL5⟩ : ∃ L5, Hid (dlen (fct j) = L5) := ⟨_, rfl⟩
        have EL := unhide HL5
        clear HK hn5
        rw [EL]
        clear EL
        go_wp2
        go_roundg (n + 2 - (j + 1))
        case measure => omega
        case rel => exact ⟨j + 1, L5, d5, rfl, by omega, by omega, rfl, rfl, HL5, HN5, b5⟩
      · by_cases cl : 512 < L
        · clear cj
          go_wp2
          all_goals
            go_ret
            exact ⟨rfl, hb1.trans (hbr.mono hb1.size)⟩
        · obtain rfl : j = n + 1 := by omega
          rw [Nat.add_sub_cancel] at HL HN
          clear cj
          have KL := leaves_any a m cap ks vs d (fct n) wr ((unhide HSC).keep hbr) hm (unhide HN) (by have := unhide HL; omega) (unhide HRUN (by have := unhide HL; omega))
          rw [unhide HL] at KL
          have HKL := hide KL
          clear KL
          go_wp2_with fail
          refine (unhide HKL).mono ?_
          rintro e w6 ⟨rfl, hb6⟩
          go_wp2
          go_ret
          exact ⟨rfl, hb1.trans ((hbr.trans (hb6.mono hbr.size)).mono hb1.size)⟩
  · have K32 := hide (tower_any none 0 0 (fun _ => 0) (fun _ => 0) w1 (fun i hi => absurd hi (Nat.not_lt_zero _)) (by omega))
    have nn := neqNil43 w1
    go_wp2_with fail
    refine (unhide K32).mono ?_
    rintro e w2 ⟨rfl, hb2⟩
    have bw3 : Below w1.heap.size w1 (w2.alloc (.cells #[.int .u8 1] 5)) := hb2.alloc hb2.size _
    have n3 := hide (nt_one w2)
    have d1 : Hid (dlen (fct (1 - 1)) = 1) := (by decide : dlen (fct 0) = 1)
    clear K32 K
    go_wp2_with fail
    generalize (w2.alloc (.cells #[.int .u8 1] 5)) = w3 at *
    go_loopg [5, 6] (n + 1) (fun gk wv jv wr => ∃ (j L : Nat) (d : Option Addr), gk = n + 2 - j ∧ 1 ≤ j ∧ j ≤ n + 1 ∧ wv = .slice d L L ∧ jv = .int .i64 (j : Int) ∧ Hid (dlen (fct (j - 1)) = L) ∧ Hid (Nt wr 0 d (fct (j - 1))) ∧ Below w1.heap.size w1 wr)
    case atStart => exact ⟨1, 1, _, rfl, by omega, by omega, rfl, rfl, d1, n3, bw3⟩
    case round =>
      clear d1 n3 bw3
      obtain ⟨j, L, d, rfl, hj1, hj2, rfl, rfl, HL, HN, hbr⟩ := hrel
      by_cases cj : j ≤ n ∧ L ≤ 512
      · have cj1 := cj.1
        have cj2 := cj.2
        have lj : dlen j ≤ 8 := (dlen_le_iff j 8).2 (by omega)
        have cv : IntKind.u64.wrap (j : Int) = (j : Int) := by rw [IntKind.wrap_u64]; omega
        have K21 := hide (whole_any j (by omega) wr)
        clear cj
        go_wp2_with fail
        refine (unhide K21).mono ?_
        rintro e w4 ⟨c, rfl, hc, hb4⟩
        have K23 := mul_any d c L L (dlen j) (dlen j) (dig (fct (j - 1))) (dig j) w4 (by have := ((unhide HN).keep hb4).sl; rw [unhide HL] at this; exact this) hc.sl (byt_dig _) (byt_dig _) (Nat.le_refl _) (Nat.le_refl _) (by omega) (by omega) (by omega) (by omega)
        rw [val_dig_dlen, ← unhide HL, val_dig_dlen, fct_step hj1, unhide HL] at K23
        have HK := hide K23
        clear K23 K21 hc lj
        go_wp2_with fail
        refine (unhide HK).mono ?_
        rintro e w5 ⟨d5, rfl, hn5, hb5⟩
        have HN5 := hide (hn5.mono (Nat.zero_le _))
        have b5 : Below w1.heap.size w1 w5 := hbr.trans ((hb4.trans (hb5.mono hb4.size)).mono hbr.size)
        obtain ⟨L5, HL5⟩ : ∃ L5, Hid (dlen (fct j) = L5) := ⟨_, rfl⟩
        have EL := unhide HL5
        clear HK hn5
        rw [EL]
        clear EL
        go_wp2
        go_roundg (n + 2 - (j + 1))
        case measure => omega
        case rel => exact ⟨j + 1, L5, d5, rfl, by omega, by omega, rfl, rfl, HL5, HN5, b5⟩
      · by_cases cl : 512 < L
        · clear cj
          go_wp2
          all_goals
            go_ret
            exact ⟨rfl, hb1.trans (hbr.mono hb1.size)⟩
        · obtain rfl : j = n + 1 := by omega
          rw [Nat.add_sub_cancel] at HL HN
          clear cj
          have := unhide HL
          omega
end Go.Proofs.Ygctai
