/-
  ntt.Convolve, mntt.MulNTT.
-/
import Derived.Test.YgctaiMB
namespace Go.Proofs.Ygctai
open Go.RowKit
set_option linter.unusedVariables false
attribute [local go_sem ↓] Go.wp_at_zero Go.wp_at_succ

set_option maxRecDepth 100000 in
set_option maxHeartbeats 400000 in
/-- ntt.elems. -/
theorem elems_any (a : Option Addr) (la ca n : Nat) (f : Nat → Nat) (w : World) (hs : Sl w a la f) (hf : Byt f) (hl : la ≤ n) (hn : n ≤ 1048576) :
    Calls Taig.prog 173 #[.slice a la ca, .int .i64 n] w fun e w' => e = .returned (.slice (some ⟨w.heap.size, 0, none⟩) n n) ∧ Row w' w.heap.size 0 n (wrd (cutf f la)) ∧ Free w' w.heap.size 0 n ∧ Below w.heap.size w w' := by
  have hmk := make115 n (by omega)
  have HF := hide hf
  clear hf
  go_enter Taig.func173, Taig.ntmps173
  go_wp2
  go_loopg [6] la (fun gi iv wr => ∃ (i : Nat), gi = la - i ∧ i ≤ la ∧ iv = .int .i64 i ∧ Row wr w.heap.size 0 n (wrd (cutf f i)) ∧ Free wr w.heap.size 0 n ∧ Below w.heap.size w wr)
  case atStart => exact ⟨0, rfl, Nat.zero_le _, rfl, (row_wmade _ _).congr fun i _ => by rw [wrd_at, wrd_at, cutf_ge f (Nat.zero_le _)], free_made _ _ _ _, below_alloc _ _⟩
  case round =>
    clear hmk
    obtain ⟨i, rfl, hi, rfl, hr, hfr, hb⟩ := hrel
    by_cases hlt : i < la
    · have hsr := hs.keep hb
      obtain ⟨b0, off0, rfl, r0⟩ := hsr (by omega)
      have c1 := r0.cell hlt
      simp only [oct_at] at c1
      have a1 := unhide HF i
      obtain ⟨x, hx⟩ : ∃ x, Hid (f i = x) := ⟨_, rfl⟩
      rw [unhide hx] at c1 a1
      have c2 := hr.cell (i := i) (by omega)
      have f2 := hfr i (by omega)
      rw [Nat.zero_add] at c2 f2
      simp only [wrd_at] at c2
      go_wp2
      go_roundg (la - (i + 1))
      case measure => omega
      case rel => exact ⟨i + 1, rfl, by omega, by go_num, (hr.wput i x (by omega) (by omega) (by first | rfl | omega)).congr (fun t _ => by
        rw [wrd_at, wrd_at]
        unfold upd cutf
        by_cases e : t = i
        · rw [if_pos e, if_pos (by omega), e, unhide hx]
        · rw [if_neg e]
          by_cases e2 : t < i
          · rw [if_pos e2, if_pos (by omega)]
          · rw [if_neg e2, if_neg (by omega)]), hfr.setCell _ _, hb.setCell (Nat.le_refl _) _⟩
    · obtain rfl : i = la := by omega
      go_wp2
      go_ret
      exact ⟨rfl, hr, hfr, hb⟩

theorem byt_p {f : Nat → Nat} (hf : Byt f) (la i : Nat) : cutf f la i < 998244353 := Nat.lt_trans (byt_cutf hf la i) (by decide)
/-- What comes back of a product of two transforms. -/
theorem back_one {F G Z Y : Nat → Nat} {la lb N k : Nat} (hF : ∀ i, F i < 256) (hG : ∀ i, G i < 256) (hz : ∀ i, la ≤ i → F i = 0) (hz2 : ∀ i, lb ≤ i → G i = 0) (hk : k ≤ 10) (hN : N = 2 ^ k) (hl : la + lb - 1 ≤ N) (hN2 : N ≤ 1024)
    (hZ : ∀ j, j < N → Eqm (Z j) (FM (rtk k) F N j * FM (rtk k) G N j)) (hY : ∀ j, j < N → Y j < 998244353 ∧ Eqm (Y j * N) (FM (irt k) Z N j)) (j : Nat) (hj : j < N) : Y j = lc F G j := by
  obtain ⟨z, hzz⟩ : ∃ z : Nat, z = 1023 := ⟨_, rfl⟩
  have hv : Eqm (irt k) (rtk k ^ z) := root_inv hk (rtk_rtm hk) (fun e he => irt_eqm k e he) hzz
  obtain ⟨h1, h2⟩ := hY j hj
  have hdv : N ∣ 1024 := by
    rw [hN]; exact ⟨2 ^ (10 - k), by rw [← Nat.pow_add, show k + (10 - k) = 10 by omega]⟩
  have h0 : 0 < N := by rw [hN]; exact Nat.two_pow_pos _
  have h3 : Eqm (Y j * N) (N * lc F G j) := by
    refine h2.trans ((fm_eqm (Eqm.refl _) N j hZ).trans ?_)
    rw [← cvs_lc hz hz2 hdv h0 hl hj]
    subst hN
    exact back_prod hzz (rtk_rtm hk) hv _ _ j
  obtain ⟨u, hu⟩ : ∃ u, Eqm (u * N) 1 := by
    obtain ⟨e, he⟩ : ∃ e : Nat, e = 998244351 := ⟨_, rfl⟩
    exact ⟨(2 ^ k) ^ e, by rw [hN]; exact len_inv fun e' he' => by rw [he, he']; exact Eqm.refl _⟩
  have h5 := (Eqm.refl u).mul h3
  rw [Nat.mul_comm (Y j), ← Nat.mul_assoc, ← Nat.mul_assoc] at h5
  have h6 := (hu.mul (Eqm.refl (Y j))).symm.trans (h5.trans (hu.mul (Eqm.refl (lc F G j))))
  rw [Nat.one_mul, Nat.one_mul] at h6
  refine eqm_lt h6 h1 ?_
  have := lc_lt hF hG j
  show lc F G j < 998244353
  omega

set_option maxRecDepth 100000 in
set_option maxHeartbeats 1000000 in
/-- ntt.Convolve within 512 digits a side. -/
theorem ntConvolve_any (a b : Option Addr) (la ca lb cb : Nat) (f g : Nat → Nat) (w : World) (hs : Sl w a la f) (ht : Sl w b lb g) (hf : Byt f) (hg : Byt g) (h1 : 0 < la) (h2 : la ≤ 512) (h3 : 0 < lb) (h4 : lb ≤ 512) :
    Calls Taig.prog 169 #[.slice a la ca, .slice b lb cb] w fun e w' => ∃ d, e = .returned (.tuple #[.slice d (la + lb - 1) (la + lb - 1), .bool true]) ∧ S64 w' d (la + lb - 1) (lc (cutf f la) (cutf g lb)) ∧ Below w.heap.size w w' := by
  have e1 : ((la : Int) == 0) = false := by simp; omega
  have e2 : ((lb : Int) == 0) = false := by simp; omega
  obtain ⟨m, hm⟩ : ∃ m, Hid (la + lb - 1 = m) := ⟨_, rfl⟩
  have hmI : (la : Int) + (lb : Int) - 1 = (m : Int) := by have := unhide hm; omega
  have hm1 : m ≤ 1023 := by have := unhide hm; omega
  have hm0 : 0 < m := by have := unhide hm; omega
  have hlam : la ≤ m := by have := unhide hm; omega
  have hlbm : lb ≤ m := by have := unhide hm; omega
  rw [unhide hm]
  have HF := hide hf
  have HG := hide hg
  clear hf hg
  go_enter Taig.func169, Taig.ntmps169
  go_wp2
  try simp only [hmI]
  clear hmI
  go_loopg [7] 9 (fun gk nv wr => ∃ (k N : Nat), gk = 10 - k ∧ 1 ≤ k ∧ k ≤ 10 ∧ Hid (N = 2 ^ k) ∧ nv = .int .i64 N ∧ N ≤ 1024 ∧ w = wr)
  case atStart => exact ⟨1, 2, rfl, by omega, by omega, rfl, rfl, by omega, rfl⟩
  case round =>
    obtain ⟨k, N, rfl, hk1, hk, hN, rfl, hN2, rfl⟩ := hrel
    by_cases hlt : N < m
    · have hk10 : k < 10 := by
        rcases Nat.lt_or_ge k 10 with h | h
        · exact h
        · obtain rfl : k = 10 := by omega
          have := unhide hN
          have h9 : (2 : Nat) ^ 10 = 1024 := by decide
          omega
      have hN3 : 2 * N ≤ 1024 := by
        rw [unhide hN, Nat.mul_comm, ← Nat.pow_succ]
        exact Nat.le_trans (Nat.pow_le_pow_right (by decide) hk10) (by decide)
      go_wp2
      go_roundg (10 - (k + 1))
      case measure => omega
      case rel => exact ⟨k + 1, 2 * N, rfl, by omega, by omega, by unfold Hid; rw [unhide hN, Nat.pow_succ, Nat.mul_comm], by go_num, hN3, rfl⟩
    · obtain ⟨H, hH2⟩ : ∃ H, 2 * H = N := ⟨2 ^ (k - 1), by
        rw [unhide hN]
        obtain ⟨j, rfl⟩ : ∃ j, k = j + 1 := ⟨k - 1, by omega⟩
        rw [Nat.add_sub_cancel, Nat.pow_succ, Nat.mul_comm]⟩
      have hN0 : 0 < N := by omega
      have KE := hide (elems_any a la ca N f w hs (unhide HF) (by omega) (by omega))
      go_wp2_with fail
      refine (unhide KE).mono ?_
      rintro e w1 ⟨rfl, rx, fx, b1⟩
      have s1 := b1.size
      have hx1 := rx.block_lt hN0
      have KE2 := hide (elems_any b lb cb N g w1 (ht.keep b1) (unhide HG) (by omega) (by omega))
      go_wp2_with fail
      refine (unhide KE2).mono ?_
      rintro e w2 ⟨rfl, ry, fy, b2'⟩
      have b2 := b1.trans (b2'.mono s1)
      have s2 := b2.size
      have rx2 := rx.keep b2'
      have fx2 := fx.below b2' hx1
      have hy2 := ry.block_lt hN0
      obtain ⟨bx, hbx⟩ : ∃ bx, Hid (w.heap.size = bx) := ⟨_, hide rfl⟩
      obtain ⟨by', hby⟩ : ∃ by', Hid (w1.heap.size = by') := ⟨_, hide rfl⟩
      have hxy : bx ≠ by' := by have := unhide hbx; have := unhide hby; omega
      have hxw : w.heap.size ≤ bx := by have := unhide hbx; omega
      have hyw : w.heap.size ≤ by' := by have := unhide hby; omega
      rw [unhide hbx] at rx2 fx2 ⊢
      rw [unhide hby] at ry fy hy2 ⊢
      clear rx fx KE KE2 hx1 b2'
      have KF := hide (ntForward_core k N H bx 0 N (cutf f la) w2 hk hk1 hN hH2 hN2 (Nat.le_refl _) (by omega) rx2 (fun i _ => byt_p (unhide HF) la i) fx2)
      go_wp2_with fail
      refine (unhide KF).mono ?_
      rintro e w3 ⟨X, rfl, hX, rx3, wx3⟩
      have HX := hide hX
      clear hX KF
      have b3 := wx3.below b2 hxw s2
      have s3 := b3.size
      have ry3 := ry.wr wx3 (.inl (Ne.symm hxy))
      have fy3 := fy.wr wx3 hy2
      have fx3 := fx2.wr wx3 (rx2.block_lt hN0)
      have KF2 := hide (ntForward_core k N H by' 0 N (cutf g lb) w3 hk hk1 hN hH2 hN2 (Nat.le_refl _) (by omega) ry3 (fun i _ => byt_p (unhide HG) lb i) fy3)
      go_wp2_with fail
      refine (unhide KF2).mono ?_
      rintro e w4 ⟨Y, rfl, hY, ry4, wy4⟩
      have HY := hide hY
      clear hY KF2
      have b4 := wy4.below b3 hyw s3
      have s4 := b4.size
      have rx4 := rx3.wr wy4 (.inl hxy)
      have fx4 := fx3.wr wy4 (rx3.block_lt hN0)
      have hx4 := rx4.block_lt hN0
      clear rx2 fx2 ry fy hy2 wx3 ry3 fy3 fx3 rx3 wy4 b2 b3
      go_wp2
      go_loopg [10] N (fun gi iv wr => ∃ (i : Nat) (Z : Nat → Nat), gi = N - i ∧ i ≤ N ∧ iv = .int .i64 i ∧ Hid (∀ s, s < i → Z s < 998244353 ∧ Eqm (Z s) (X s * Y s)) ∧ Hid (∀ s, i ≤ s → Z s = X s) ∧ Row wr bx 0 N (wrd Z) ∧ Wr bx 0 (0 + N) w4 wr)
      case atStart => exact ⟨0, X, rfl, Nat.zero_le _, rfl, fun s h => absurd h (by omega), fun _ _ => rfl, rx4, Wr.refl _ _ _ _⟩
      case round =>
        obtain ⟨i, Z, rfl, hi, rfl, hdo, hre, rz, wz⟩ := hrel
        have sz := wz.size
        by_cases hil : i < N
        · have c1 := rz.cell hil
          have f1 := (fx4.wr wz hx4) i hil
          have c2 := (ry4.wr wz (.inl (Ne.symm hxy))).cell hil
          rw [Nat.zero_add] at c1 c2 f1
          simp only [wrd_at] at c1 c2
          rw [unhide hre i (Nat.le_refl _)] at c1
          have a1 := (unhide HX i hil).1
          have a2 := (unhide HY i hil).1
          obtain ⟨x, hx⟩ : ∃ x, Hid (X i = x) := ⟨_, rfl⟩
          obtain ⟨y, hy⟩ : ∃ y, Hid (Y i = y) := ⟨_, rfl⟩
          rw [unhide hx] at c1 a1
          rw [unhide hy] at c2 a2
          have KM := hide (mulMod_any x y wr.drew (by omega) (by omega))
          go_wp2
          go_region_with (go_at_call 125; refine (unhide KM).mono ?_; rintro e w' ⟨r, rfl, hr, hr2, rfl⟩)
          all_goals
            have HE : Hid (r < 998244353 ∧ Eqm r (X i * Y i)) := ⟨hr, by rw [unhide hx, unhide hy]; exact hr2⟩
            clear hr2
            go_wp2
            go_roundg (N - (i + 1))
            case measure => omega
            case rel => exact ⟨i + 1, upd Z i r, rfl, by omega, by go_num, fun s hs => by
              by_cases e : s = i
              · subst e; rw [upd_at]; exact unhide HE
              · rw [upd_ne _ _ e]; exact unhide hdo s (by omega), fun s hs => by rw [upd_ne _ _ (by omega)]; exact unhide hre s (by omega), rz.drew.wput i r hil (by omega) rfl, wz.drew.setCell (by omega) (by omega) _⟩
        · obtain rfl : i = N := by omega
          have fz := fx4.wr wz hx4
          have KI := hide (ntInverse_core k i H bx 0 i Z wr hk hk1 hN hH2 hN2 (Nat.le_refl _) (by omega) rz (fun s hs => (unhide hdo s hs).1) fz)
          have bz := wz.below b4 hxw s4
          have s5 := bz.size
          go_wp2_with fail
          refine (unhide KI).mono ?_
          rintro e w5 ⟨V, rfl, hV, rv, wv⟩
          have HV : Hid (∀ j, j < i → V j = lc (cutf f la) (cutf g lb) j) := fun j hj => back_one (byt_cutf (unhide HF) la) (byt_cutf (unhide HG) lb) (fun i hi => cutf_ge f hi) (fun i hi => cutf_ge g hi) hk (unhide hN) (by have := unhide hm; omega) hN2 (fun s hs => (unhide hdo s hs).2.trans ((unhide HX s hs).2.mul (unhide HY s hs).2)) hV j hj
          have HVp : Hid (∀ j, j < i → V j < 998244353) := fun j hj => (hV j hj).1
          clear hV KI
          have bv := wv.below bz hxw s5
          have s6 := bv.size
          have hmk := make96 m (by omega)
          have hvl := rv.block_lt hN0
          go_wp2
          clear hmk
          go_loopg [12] m (fun gj jv wr => ∃ (j : Nat) (C : Nat → Nat), gj = m - j ∧ j ≤ m ∧ jv = .int .i64 j ∧ Hid (∀ s, s < j → C s = V s) ∧ Row wr w5.heap.size 0 m (lng C) ∧ Free wr w5.heap.size 0 m ∧ Below w5.heap.size w5 wr)
          case atStart => exact ⟨0, fun _ => 0, rfl, Nat.zero_le _, rfl, fun s h => absurd h (by omega), row_made _ _ _ _, free_made _ _ _ _, below_alloc _ _⟩
          case round =>
            obtain ⟨j, C, rfl, hj, rfl, hC, rc, fc, bc⟩ := hrel
            by_cases hjm : j < m
            · have c1 := rc.cell hjm
              have f1 := fc j hjm
              have c2 := (rv.keep bc).cell (i := j) (by omega)
              rw [Nat.zero_add] at c1 c2 f1
              simp only [lng_at, wrd_at] at c1 c2
              have a1 := unhide HVp j (by omega)
              obtain ⟨v, hv⟩ : ∃ v, Hid (V j = v) := ⟨_, rfl⟩
              rw [unhide hv] at c2 a1
              go_wp2
              go_roundg (m - (j + 1))
              case measure => omega
              case rel => exact ⟨j + 1, upd C j v, rfl, by omega, by go_num, fun s hs => by
                by_cases e : s = j
                · subst e; rw [upd_at, unhide hv]
                · rw [upd_ne _ _ e]; exact unhide hC s (by omega), rc.lput j v hjm (by omega) (by first | rfl | omega), fc.setCell _ _, bc.setCell (Nat.le_refl _) _⟩
            · obtain rfl : j = m := by omega
              go_wp2
              go_ret2
              exact ⟨_, rfl, fun _ => ⟨_, _, rfl, rc.congr fun s hs => by rw [lng_at, lng_at, unhide hC s hs, unhide HV s (by omega)]⟩, bv.trans (bc.mono s6)⟩
end Go.Proofs.Ygctai
