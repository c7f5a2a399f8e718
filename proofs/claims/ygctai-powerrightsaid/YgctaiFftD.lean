/-
  Package fft: Raw.
-/
import Derived.Test.YgctaiFftC
import Derived.Deep.RegionWith
namespace Go.Proofs.Ygctai
open Go.RowKit
set_option linter.unusedVariables false
attribute [local go_sem] run_store_complex

/-- Some of the products. -/
def prTo (X Y : Nat → Cw) (i : Nat) : Nat → Cw := fun q => if q < i then wmul (X q) (Y q) else X q
theorem prTo_put (X Y : Nat → Cw) (i : Nat) : upd (prTo X Y i) i (wmul (X i) (Y i)) = prTo X Y (i + 1) := by
  funext q; unfold upd prTo
  by_cases h : q = i
  · subst h; rw [if_pos rfl, if_pos (by omega)]
  · rw [if_neg h]
    by_cases h2 : q < i
    · rw [if_pos h2, if_pos (by omega)]
    · rw [if_neg h2, if_neg (by omega)]

set_option maxRecDepth 100000 in
set_option maxHeartbeats 4000000 in
/-- fft.Raw. -/
theorem raw_any (a b : Option Addr) (la ca lb cb : Nat) (f g : Nat → Nat) (w : World) (hs : Sl w a la f) (ht : Sl w b lb g) (hf : Byt f) (hg : Byt g) (hz : ∀ i, la ≤ i → f i = 0) (hz2 : ∀ i, lb ≤ i → g i = 0)
    (h1 : 1 ≤ la) (h2 : la ≤ 512) (h3 : 1 ≤ lb) (h4 : lb ≤ 512) :
    Calls Taig.prog 109 #[.slice a la ca, .slice b lb cb] w fun e w' => ∃ k B, 1 ≤ k ∧ k ≤ 10 ∧ la + lb - 1 ≤ 2 ^ k ∧ e = .returned (.slice (some ⟨B, 0, none⟩) (2 ^ k) (2 ^ k)) ∧ w.heap.size ≤ B ∧
      Row w' B 0 (2 ^ k) (cvals (dvw (ofd (2 ^ k)) (bckw k f g la lb))) ∧ Below w.heap.size w w' := by
  have e1 : ((la : Int) == 0) = false := by simp; omega
  have e2 : ((lb : Int) == 0) = false := by simp; omega
  have HZ := hide hz
  have HZ2 := hide hz2
  clear hz hz2
  go_enter Taig.func109, Taig.ntmps109
  go_wp2
  go_loop [5] (fun kv => ∃ k : Nat, 1 ≤ k ∧ k ≤ 10 ∧ kv = .int .u8 k) (fun kv => 10 - (intOf kv).toNat)
  case atStart => exact ⟨1, by omega, by omega, rfl⟩
  case round =>
    obtain ⟨k, hk1, hk, rfl⟩ := hrel
    obtain ⟨N, hN⟩ : ∃ N, N = 2 ^ k := ⟨_, rfl⟩
    have hw : wrap64 (2 ^ k) = (N : Int) := by rw [hN]; exact wrap_pow _ (by omega)
    have hN10 : N ≤ 1024 := by rw [hN]; exact Nat.le_trans (Nat.pow_le_pow_right (by decide) hk) (by decide)
    have hNk : k = 10 → N = 1024 := fun e => by rw [hN, e]
    have HN := hide hN
    have HNK := hide hNk
    clear hN hNk
    by_cases hlt : N < la + lb - 1
    · have hk2 : k < 10 := by
        rcases Nat.lt_or_ge k 10 with h | h
        · exact h
        · have := unhide HNK (by omega); omega
      go_wp2
      go_round
      case rel => exact ⟨k + 1, by omega, by omega, by go_num⟩
      case measure => simp [intOf]; omega
    · clear e1 e2 HNK
      have HL : Hid (la + lb - 1 ≤ 2 ^ k) := by unfold Hid; rw [← unhide HN]; omega
      obtain ⟨H, hH⟩ : ∃ H, H = 2 ^ (k - 1) := ⟨_, rfl⟩
      have hHN : 2 * H = N := by
        rw [unhide HN, hH, ← Nat.pow_succ']; congr 1; omega
      have hT := twTable_any k hk hk1 w
      rw [← hH] at hT
      have HT := hide hT
      have HHN := hide hHN
      have hHb : H ≤ 512 := by omega
      have hN0 : 0 < N := by rw [unhide HN]; exact Nat.two_pow_pos k
      clear hT hHN hH
      go_wp2_with fail
      refine (unhide HT).mono ?_
      rintro e w1 ⟨rfl, htab1, hb1⟩
      have s1 := hb1.size
      have l1 := htab1.block_lt (by have := unhide HHN; omega)
      go_wp2_with fail
      refine (points_any a la ca N f w1 (hs.keep hb1) hf (by omega) (by omega)).mono ?_
      rintro e w2 ⟨rfl, hx2, fx2, hb2⟩
      have s2 := hb2.size
      have l2 := hx2.block_lt hN0
      have htab2 := htab1.keep hb2
      go_wp2_with fail
      refine (points_any b lb cb N g w2 ((ht.keep hb1).keep hb2) hg (by omega) (by omega)).mono ?_
      rintro e w3 ⟨rfl, hy3, fy3, hb3⟩
      have s3 := hb3.size
      have l3 := hy3.block_lt hN0
      have htab3 := htab2.keep hb3
      have hx3 := hx2.keep hb3
      have fx3 := fx2.below hb3 l2
      obtain ⟨okx, _⟩ := fwd_near hf (unhide HZ) hk hk1
      obtain ⟨oky, _⟩ := fwd_near hg (unhide HZ2) hk hk1
      go_wp2_with fail
      refine (forward_core k N H w1.heap.size 0 N w.heap.size 0 H (ptsw f la) (tabw k) w3 hk hk1 HN (unhide HHN) hN10 hx3 fx3 htab3 (by omega) okx).mono ?_
      rintro e w4 ⟨rfl, hx4, wr4⟩
      have s4 := wr4.size
      have htab4 := htab3.wr wr4 (.inl (by omega))
      have hy4 := hy3.wr wr4 (.inl (by omega))
      have fy4 := fy3.wr wr4 l3
      have fx4 := fx3.wr wr4 (by omega)
      go_wp2_with fail
      refine (forward_core k N H w2.heap.size 0 N w.heap.size 0 H (ptsw g lb) (tabw k) w4 hk hk1 HN (unhide HHN) hN10 hy4 fy4 htab4 (by omega) oky).mono ?_
      rintro e w5 ⟨rfl, hy5, wr5⟩
      have s5 := wr5.size
      have htab5 := htab4.wr wr5 (.inl (by omega))
      have hx5 := hx4.wr wr5 (.inl (by omega))
      have fx5 := fx4.wr wr5 (by omega)
      have hb5 : Below w.heap.size w w5 := wr5.below (wr4.below ((hb1.trans (hb2.mono s1)).trans (hb3.mono (by omega))) (by omega) (by omega)) (by omega) (by omega)
      clear okx oky HT hs ht htab1 htab2 htab3 htab4 hx2 hx3 hx4 fx2 fx3 fx4 hy3 hy4 fy3 fy4 wr4 wr5
      have hpr : Hid (∀ q, q < N → WMulOk (fww k (tabw k) (ptsw f la) q) (fww k (tabw k) (ptsw g lb) q)) := fun q hq => (prd_near hf hg (unhide HZ) (unhide HZ2) hk hk1 q (by rw [← unhide HN]; exact hq)).1
      go_wp2
      go_loopg [9] N (fun gk iv wr => ∃ i : Nat, gk = N - i ∧ i ≤ N ∧ iv = .int .i64 i ∧ Row wr w1.heap.size 0 N (cvals (prTo (fww k (tabw k) (ptsw f la)) (fww k (tabw k) (ptsw g lb)) i)) ∧ Free wr w1.heap.size 0 N ∧ Row wr w2.heap.size 0 N (cvals (fww k (tabw k) (ptsw g lb))) ∧ Row wr w.heap.size 0 H (cvals (tabw k)) ∧ Below w.heap.size w wr)
      case atStart => exact ⟨0, rfl, Nat.zero_le _, rfl, hx5.congr (fun q _ => by unfold cvals prTo; rw [if_neg (by omega)]), fx5, hy5, htab5, hb5⟩
      case round =>
        obtain ⟨i, rfl, hi, rfl, hx6, fx6, hy6, htab6, hb6⟩ := hrel
        clear hx5 fx5 hy5 htab5 hb5
        by_cases hil : i < N
        · have c1 := hx6.cell (i := i) hil
          have c2 := hy6.cell (i := i) hil
          have f1 := fx6 i hil
          have e0 : prTo (fww k (tabw k) (ptsw f la)) (fww k (tabw k) (ptsw g lb)) i i = fww k (tabw k) (ptsw f la) i := by unfold prTo; rw [if_neg (by omega)]
          simp only [Nat.zero_add, cvals_at] at c1 c2 f1
          rw [e0] at c1
          have q1 := hide (fun w => twMul_any _ _ w (unhide hpr i hil))
          clear e0
          go_wp2
          go_region_with (go_at_call 135; refine (unhide q1 _).mono ?_; rintro e w' ⟨rfl, rfl⟩)
          all_goals
            go_wp2
            go_roundg (N - (i + 1))
            case measure => omega
            case rel => exact ⟨i + 1, rfl, by omega, by go_num, by
              rw [← prTo_put]; exact (hx6.cput i _ hil (by omega) rfl rfl), (fx6.setCell _ _).drew, hy6.setOther (.inl (by omega)) _, htab6.setOther (.inl (by omega)) _, (hb6.setCell (by simp; omega) _).drew⟩
        · have hiN : Hid (i = N) := by unfold Hid; omega
          have hx7 : Row wr w1.heap.size 0 N (cvals (prdw k f g la lb)) := hx6.congr fun q hq => by
            unfold cvals prTo; rw [unhide hiN, if_pos hq]; rfl
          have okb := (bck_near hf hg (unhide HZ) (unhide HZ2) hk hk1).1
          have K := inverse_core k N H w1.heap.size 0 N w.heap.size 0 H (prdw k f g la lb) (tabw k) (bckw k f g la lb) wr hk hk1 HN (unhide HHN) hN10 hx7 fx6 htab6 (by omega) okb rfl
            (fun q hq => by
              have := fin_near hf hg (unhide HZ) (unhide HZ2) hk hk1 q (by rw [← unhide HN]; exact hq)
              rw [← unhide HN] at this
              exact ⟨this.1, this.2.1⟩)
          have HK := hide K
          have s6 := hb6.size
          clear K okb hpr
          go_wp2_with fail
          refine (unhide HK).mono ?_
          rintro e w8 ⟨rfl, hx8, wr8⟩
          go_wp2
          go_ret
          have hN' : N = 2 ^ k := unhide HN
          rw [hN'] at hx8 ⊢
          exact ⟨k, w1.heap.size, hk1, hk, unhide HL, rfl, by omega, hx8, wr8.below hb6 (by omega) (by omega)⟩
end Go.Proofs.Ygctai
