/-
  newton.powers.
-/
import Derived.Test.YgctaiNewtE
namespace Go.Proofs.Ygctai
open Go.RowKit
set_option linter.unusedVariables false

/-- A slice with one natural. -/
theorem pc_one (w : World) (B : Nat) (q : Option Addr) (N : Nat) (p : Nat → Nat) (hq : Nt w 0 q N) (hp : p 0 = N) (hB : B ≤ w.heap.size) :
    Pc (w.alloc (.cells #[.slice q (dlen N) (dlen N)] 23)) B (some ⟨w.heap.size, 0, none⟩) 1 1 p := by
  have hba := below_alloc w (.cells #[.slice q (dlen N) (dlen N)] 23)
  refine ⟨fun _ => .slice q (dlen N) (dlen N), ⟨Nat.le_refl _, .inr ⟨_, rfl, hB, by simp, row_new _ _ _ _ _ (fun i hi => ?_), free_new _ _ _ _⟩⟩, fun i hi => ?_⟩
  · match i, hi with
    | 0, _ => rfl
  · obtain rfl : i = 0 := by omega
    refine ⟨q, by rw [hp], by rw [hp]; exact hq.keep hba, fun b o x e1 e2 => ?_⟩
    injection e1 with e1; injection e1 with e1
    have := (hq.block b o x e2).2
    omega

theorem ten7 : 256 ^ 512 ≤ TEN 7 := by decide +kernel
theorem ten_k6 {k A : Nat} (h : TEN k ≤ A) (hA : dlen A ≤ 512) : k ≤ 6 := by
  rcases Nat.lt_or_ge k 7 with h1 | h1
  · omega
  · have h2 := ten_mono h1
    have h3 := (dlen_le_iff A 512).1 hA
    have h4 := ten7
    omega
theorem sq_big {A T : Nat} (h0 : 0 < dlen T) (h : dlen A < 2 * dlen T - 1) : A < T * T := by
  have h1 := (lt_dlen_iff T (dlen T - 1)).1 (by omega)
  have h2 := Nat.mul_le_mul h1 h1
  rw [← Nat.pow_add] at h2
  have h3 := (dlen_le_iff A (dlen T - 1 + (dlen T - 1))).1 (by omega)
  omega

attribute [local irreducible] TEN
set_option maxRecDepth 100000 in
set_option maxHeartbeats 2000000 in
/-- newton.powers. -/
theorem powers_any (a : Option Addr) (A : Nat) (w : World) (ha : Nt w 0 a A) (lA : dlen A ≤ 512) :
    Calls Taig.prog 60 #[.slice a (dlen A) (dlen A)] w fun e w' => ∃ K c d, e = .returned (.slice d (K + 1) c) ∧ Pc w' w.heap.size d (K + 1) c TEN ∧ K ≤ 6 ∧ A < TEN (K + 1) ∧ Below w.heap.size w w' := by
  go_enter Taig.func60, Taig.ntmps60
  go_wp2_with fail
  refine (small_any 10000000000000000 (by omega) w).mono ?_
  rintro e w1 ⟨q, rfl, hq, hb1⟩
  have s1 := hb1.size
  have hpc := pc_one w1 w.heap.size q 10000000000000000 TEN (hq.mono (Nat.zero_le _)) ten_zero.symm s1
  have hb2 := hb1.trans ((below_alloc w1 (.cells #[.slice q (dlen 10000000000000000) (dlen 10000000000000000)] 23)).mono s1)
  obtain ⟨L0, HL0⟩ : ∃ L0, Hid (dlen 10000000000000000 = L0) := ⟨_, rfl⟩
  rw [unhide HL0] at hpc hb2 ⊢
  go_wp2
  go_loopg [3] 7 (fun gk ov wr => ∃ (K c : Nat) (d : Option Addr), gk = 7 - K ∧ K ≤ 6 ∧ ov = .slice d (K + 1) c ∧ Pc wr w.heap.size d (K + 1) c TEN ∧ Below w.heap.size w wr)
  case atStart => exact ⟨0, 1, _, rfl, by omega, rfl, hpc, hb2⟩
  case round =>
    clear hpc hb2
    obtain ⟨K, c, d, rfl, hK, rfl, hpc, hbel⟩ := hrel
    obtain ⟨b, ad, rfl, c1, n1⟩ := hpc.at (i := K) (by omega)
    have sb := hbel.size
    have h512 : dlen (TEN K) ≤ 512 := (dlen_le_iff _ _).2 (Nat.lt_of_le_of_lt (ten_mono hK) ten6)
    have h0 := dlen_pos (ten_pos K)
    have HT : Hid (TEN (K + 1) = TEN K * TEN K) := ten_succ K
    by_cases hbig : dlen A < 2 * dlen (TEN K) - 1
    · have HB : Hid (A < TEN (K + 1)) := by unfold Hid; rw [unhide HT]; exact sq_big h0 hbig
      generalize dlen (TEN K) = LT at *
      go_wp2
      go_ret
      exact ⟨K, c, _, rfl, hpc, hK, HB, hbel⟩
    · have KM := mulFFT_any ad ad _ (dlen (TEN K)) _ (dlen (TEN K)) _ _ wr n1.sl n1.sl (byt_dig _) (byt_dig _) h512 h512
      rw [val_dig_dlen, ← unhide HT] at KM
      have HKM := hide KM
      have lT : dlen (TEN (K + 1)) ≤ 512 + 512 := by rw [unhide HT]; exact dlen_mul_le h512 h512
      clear KM
      generalize dlen (TEN K) = LT at *
      go_wp2_with fail
      refine (unhide HKM).mono ?_
      rintro e w3 ⟨sq, rfl, hsq, hb3⟩
      have s3 := hb3.size
      have KC := cmp_any sq a _ (dlen (TEN (K + 1))) _ (dlen A) _ _ w3 hsq.sl ((ha.keep hbel).keep hb3).sl (byt_dig _) (byt_dig _) (Nat.le_refl _) (Nat.le_refl _) (by omega) (by omega) (by omega) (by omega)
      rw [val_dig_dlen, val_dig_dlen] at KC
      rcases Nat.lt_or_ge A (TEN (K + 1)) with hlt | hge
      · rw [cmpz_gt hlt] at KC
        have HKC := hide KC
        have HB := hide hlt
        clear KC hlt
        go_wp2_with fail
        refine (unhide HKC).mono ?_
        rintro e w4 ⟨rfl, hb4⟩
        go_wp2
        go_ret
        exact ⟨K, c, _, rfl, (hpc.keep hb3).keep hb4, hK, HB, (hbel.trans (hb3.mono sb)).trans (hb4.mono (by omega))⟩
      · have hc0 : -1 ≤ cmpz (TEN (K + 1)) A ∧ cmpz (TEN (K + 1)) A ≤ 0 := by
          unfold cmpz; split
          · simp
          · rw [if_pos (by omega)]; simp
        obtain ⟨hc1, hc2⟩ := hc0
        have hK6 := ten_k6 hge lA
        have HKC := hide KC
        clear KC hge
        generalize cmpz (TEN (K + 1)) A = cz at *
        go_wp2_with fail
        refine (unhide HKC).mono ?_
        rintro e w4 ⟨rfl, hb4⟩
        have s4 := hb4.size
        have hba := below_alloc w4 (.cells #[.slice sq (dlen (TEN (K + 1))) (dlen (TEN (K + 1)))] 23)
        have hpc4 := (hpc.keep hb3).keep hb4
        obtain ⟨d', c', w5, hr, hpc5, hg, hd'⟩ := pc_append (w4.alloc (.cells #[.slice sq (dlen (TEN (K + 1))) (dlen (TEN (K + 1)))] 23)) w.heap.size (some ⟨b, 0, none⟩) (K + 1) c TEN (hpc4.keep hba) w4.heap.size (TEN (K + 1)) sq (by rw [World.cell?_alloc_at _ _ _ _ rfl]; rfl) (((hsq.keep hb4).keep hba).mono (Nat.zero_le _))
          (fun b' o y e1 e2 => by
            have h1 := (hpc.block b' e1).2
            have h2 := (hsq.block b' o y e2).1
            omega) (by omega) (by simp; omega)
        have hb5 := hg.below (((hbel.trans (hb3.mono sb)).trans (hb4.mono (by omega))).trans (hba.mono (by omega))) (by simp; omega) (fun k hk e => by have := (hpc.block k e).1; omega)
        have hpc6 := hpc5.congr (q := TEN) (fun i hi => by
          by_cases e : i = K + 1
          · rw [e, upd_at]
          · rw [upd_ne _ _ e])
        clear hpc5
        generalize TEN (K + 1) = T1 at *
        go_wp2_with (at_builtin; refine wpList_append_run rfl _ _ 66 rfl _ _ _ rfl rfl hr ?_)
        go_roundg (7 - (K + 1))
        case measure => omega
        case rel => exact ⟨K + 1, c', d', rfl, by omega, rfl, hpc6, hb5⟩
end Go.Proofs.Ygctai
