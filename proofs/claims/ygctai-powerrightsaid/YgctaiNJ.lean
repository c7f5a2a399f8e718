/-
  ntt: transform, Forward, Inverse.
-/
import Derived.Test.YgctaiNI
namespace Go.Proofs.Ygctai
open Go.RowKit
set_option linter.unusedVariables false
attribute [local go_sem ↓] Go.wp_at_zero Go.wp_at_succ

/-- The zero word? -/
def isZ : Value → Bool
  | .int .u32 z => z == 0
  | _ => false
theorem isZ_eq {v : Value} (h : isZ v = true) : v = .int .u32 0 := by
  cases v with
  | int k z => cases k <;> simp_all [isZ]
  | _ => simp [isZ] at h
theorem zc_all : Taig.zeroCells180.toList.all isZ = true := by decide +kernel
theorem zc_at (i : Nat) (hi : i < 4096) : Taig.zeroCells180[i]? = some (.int .u32 0) := by
  have hs := Taig.zeroCells180_size
  rw [Array.getElem?_eq_getElem (by omega)]
  congr 1
  exact isZ_eq (List.all_eq_true.1 zc_all _ (by rw [Array.mem_toList_iff]; exact Array.getElem_mem _))
theorem frw_zero (i : Nat) : frw (fun _ => 0) i = .int .u32 0 := by
  unfold frw
  split
  · rfl
  · exact congrArg (fun z : Nat => Value.int .u32 (z : Int)) (show rat 0 = 0 by decide)
/-- 64 zeros. -/
def z64 : Array Value := Array.replicate 64 (.int .u32 0)
theorem z64_at (i : Nat) (hi : i < 64) : z64[i]? = some (.int .u32 0) := by unfold z64; simp [hi]

set_option maxRecDepth 100000 in
set_option maxHeartbeats 400000 in
theorem transform_core (k N H b off cap v : Nat) (X : Nat → Nat) (w : World) (hk : k ≤ 10) (h1 : 1 ≤ k) (hN : Hid (N = 2 ^ k)) (hH2 : 2 * H = N) (hN2 : N ≤ 1024) (hcap : N ≤ cap) (hcap2 : cap ≤ 1099511627776) (hv : v < 998244353) (hw : Rtm v k)
    (hrow : Row w b off N (wrd X)) (hX : ∀ i, i < N → X i < 998244353) (hfree : Free w b off N) :
    Calls Taig.prog 149 #[.slice (some ⟨b, off, none⟩) N cap, .int .i64 k, .int .u32 v] w fun e w' => ∃ Y, e = .returned (.tuple #[]) ∧ (∀ i, i < N → Y i < 998244353 ∧ Eqm (Y i) (FM v X N i)) ∧ Row w' b off N (wrd Y) ∧ Wr b off (off + N) w w' := by
  have hN0 : 0 < N := by rw [unhide hN]; exact Nat.two_pow_pos k
  have hbl := hrow.block_lt hN0
  have KP : Hid (∀ (w1 : World) (M : Nat), H ≤ M → M ≤ 1024 → Below w.heap.size w w1 → Row w1 w.heap.size 0 (2 * M) (frw fun _ => 0) → Free w1 w.heap.size 0 (2 * M) → Row w1 w.heap.size (0 + 2 * M) (2 * M) (frw fun _ => 0) → Free w1 w.heap.size (0 + 2 * M) (2 * M) →
      Calls Taig.prog 164 #[.slice (some ⟨b, off, none⟩) N cap, .int .i64 k, .int .u32 v, .slice (some ⟨w.heap.size, 0, none⟩) M M, .slice (some ⟨w.heap.size, 2 * M, none⟩) M M] w1 fun e w' => ∃ Y, e = .returned (.tuple #[]) ∧ (∀ i, i < N → Y i < 998244353 ∧ Eqm (Y i) (FM v X N i)) ∧ Row w' b off N (wrd Y) ∧ Wr b off (off + N) w w') := by
    intro w1 M hM hM2 hb r1 f1 r2 f2
    rw [Nat.zero_add] at r2 f2
    exact passes_core k N H b off cap v w.heap.size 0 M M (2 * M) M M X _ _ w w1 hk h1 hN hH2 hN2 hcap hcap2 hv hw (hrow.keep hb) hX (hfree.below hb hbl) r1 f1 r2 f2 hM hM (Nat.le_refl _) (Nat.le_refl _) (by omega) (by omega) (by omega) (by omega) (Nat.le_refl _) hbl (Wr.of_below hb hbl)
  clear hX hw
  by_cases h : N ≤ 32
  · go_enter Taig.func149, Taig.ntmps149
    have r0 : Row (w.alloc (.cells z64 177)) w.heap.size 0 64 (frw fun _ => 0) := row_new _ _ _ _ _ fun i hi => by rw [frw_zero]; exact z64_at i hi
    have f0 : Free (w.alloc (.cells z64 177)) w.heap.size 0 64 := free_new _ _ _ _
    have hb1 := below_alloc w (.cells z64 177)
    have KQ := hide (unhide KP (w.alloc (.cells z64 177)).drew 16 (by omega) (by omega) hb1.drew (r0.drew.sub (by omega)) (f0.drew.sub (by omega)) ((r0.drew.shift (k := 2 * 16) (m := 2 * 16) (by omega)).congr fun i hi => by rw [frw_zero, frw_zero]) (f0.drew.shift (by omega)))
    go_wp2
    change Code.wp _ _ _ _ (w.alloc (Obj.cells z64 177))
    go_region_with (go_at_call 164; refine (unhide KQ).mono ?_; rintro e w' ⟨Y, rfl, hY, hr, hw⟩)
    all_goals
      go_wp2
      refine bodyPost_ret (results_none rfl _ _ _) rfl ?_
      exact ⟨Y, rfl, hY, hr, hw⟩
  · have r0 : Row (w.alloc (.cells Taig.zeroCells180 180)) w.heap.size 0 4096 (frw fun _ => 0) := row_new _ _ _ _ _ fun i hi => by rw [frw_zero]; exact zc_at i hi
    have f0 : Free (w.alloc (.cells Taig.zeroCells180 180)) w.heap.size 0 4096 := free_new _ _ _ _
    have hb1 := below_alloc w (.cells Taig.zeroCells180 180)
    have KQ := hide (unhide KP (w.alloc (.cells Taig.zeroCells180 180)).drew 1024 (by omega) (by omega) hb1.drew (r0.drew.sub (by omega)) (f0.drew.sub (by omega)) ((r0.drew.shift (k := 2 * 1024) (m := 2 * 1024) (by omega)).congr fun i hi => by rw [frw_zero, frw_zero]) (f0.drew.shift (by omega)))
    go_enter Taig.func149, Taig.ntmps149
    go_wp2
    go_region_with (go_at_call 164; refine (unhide KQ).mono ?_; rintro e w' ⟨Y, rfl, hY, hr, hw⟩)
    all_goals
      go_wp2
      go_end0
      exact ⟨Y, rfl, hY, hr, hw⟩

/-- The root of order 2^k. -/
def rtk (k : Nat) : Nat := fpow 30 3 (998244352 / 2 ^ k) 1
theorem rtk_eqm (k e : Nat) (he : e = 998244352 / 2 ^ k) : Eqm (rtk k) (3 ^ e) := by
  have h := fpow_eqm 30 3 e 1 (by rw [he]; exact Nat.lt_of_le_of_lt (Nat.div_le_self _ _) (by decide))
  rw [Nat.one_mul] at h
  unfold rtk
  rw [← he]; exact h
theorem rtk_rtm {k : Nat} (hk : k ≤ 10) : Rtm (rtk k) k := root_rtm hk fun e he => rtk_eqm k e he
/-- Its inverse. -/
def irt (k : Nat) : Nat := fpow 30 (rtk k) 998244351 1
theorem irt_eqm (k e : Nat) (he : e = 998244351) : Eqm (irt k) (rtk k ^ e) := by
  have h := fpow_eqm 30 (rtk k) e 1 (by rw [he]; decide)
  rw [Nat.one_mul] at h
  unfold irt
  rw [← he]; exact h
theorem rtm_eqm {a b : Nat} (h : Eqm a b) : ∀ {k : Nat}, Rtm a k → Rtm b k
  | 0, r => h.symm.trans r
  | k + 1, r => ((h.symm.pow _).add (Eqm.refl 1)).trans r
theorem irt_rtm {k : Nat} (hk : k ≤ 10) : Rtm (irt k) k := by
  obtain ⟨z, hz⟩ : ∃ z : Nat, z = 1023 := ⟨_, rfl⟩
  have h1 := rtk_rtm hk
  have h2 : Eqm (irt k) (rtk k ^ z) := root_inv hk h1 (fun e he => irt_eqm k e he) hz
  refine rtm_eqm h2.symm ?_
  cases k with
  | zero =>
    show Eqm _ 1
    have : Eqm (rtk 0) 1 := h1
    have := this.pow z
    rwa [Nat.one_pow] at this
  | succ k =>
    show Eqm _ 0
    have h3 : Eqm (rtk (k + 1) ^ 2 ^ k + 1) 0 := h1
    rw [← Nat.pow_mul, Nat.mul_comm, Nat.pow_mul]
    exact ((odd_pow h3 z (by rw [hz])).add (Eqm.refl 1)).trans h3
theorem fm_eqm {a b : Nat} (h : Eqm a b) {f g : Nat → Nat} (n j : Nat) (hf : ∀ i, i < n → Eqm (f i) (g i)) : Eqm (FM a f n j) (FM b g n j) := nsum_eqm n fun i hi => (hf i hi).mul (h.pow _)

set_option maxRecDepth 100000 in
/-- ntt.Root. -/
theorem ntRoot2 (k : Nat) (w : World) (hk : k ≤ 10) :
    Calls Taig.prog 140 #[.int .u8 k] w fun ev w' => ∃ r : Nat, ev = .returned (.int .u32 r) ∧ r < 998244353 ∧ Eqm r (rtk k) ∧ w = w' := by
  obtain ⟨e, he⟩ : ∃ e, e = 998244352 / 2 ^ k := ⟨_, rfl⟩
  have hel : e < 4294967296 := by rw [he]; exact Nat.lt_of_le_of_lt (Nat.div_le_self _ _) (by decide)
  have hI : (998244352 : Int) / 2 ^ k = (e : Int) := by rw [he]; simp
  have K := hide (powMod_any 3 e w (by decide) hel)
  have HE := hide he
  clear he
  go_enter Taig.func140, Taig.ntmps140
  go_wp2_with fail
  refine (unhide K).mono ?_
  rintro ev w' ⟨r, rfl, hr, hr2, rfl⟩
  have HR := hide hr
  clear hr
  go_wp2
  go_ret
  exact ⟨r, rfl, HR, hr2.trans (rtk_eqm k e (unhide HE)).symm, rfl⟩

set_option maxRecDepth 100000 in
set_option maxHeartbeats 400000 in
/-- ntt.Forward. -/
theorem ntForward_core (k N H b off cap : Nat) (X : Nat → Nat) (w : World) (hk : k ≤ 10) (h1 : 1 ≤ k) (hN : Hid (N = 2 ^ k)) (hH2 : 2 * H = N) (hN2 : N ≤ 1024) (hcap : N ≤ cap) (hcap2 : cap ≤ 1099511627776)
    (hrow : Row w b off N (wrd X)) (hX : ∀ i, i < N → X i < 998244353) (hfree : Free w b off N) :
    Calls Taig.prog 127 #[.slice (some ⟨b, off, none⟩) N cap] w fun e w' => ∃ Y, e = .returned (.bool true) ∧ (∀ i, i < N → Y i < 998244353 ∧ Eqm (Y i) (FM (rtk k) X N i)) ∧ Row w' b off N (wrd Y) ∧ Wr b off (off + N) w w' := by
  have K1 := hide (ntLevel_any k N (by omega) hN w)
  have K2 := hide (ntBelow_any b off N cap X w hrow hX (by omega))
  have K3 := hide (ntRoot2 k w hk)
  have K4 := hide (fun v hv hw => transform_core k N H b off cap v X w hk h1 hN hH2 hN2 hcap hcap2 hv hw hrow hX hfree)
  clear hX
  go_enter Taig.func127, Taig.ntmps127
  go_wp2_with fail
  refine (unhide K1).mono ?_
  rintro ev w' ⟨rfl, rfl⟩
  go_wp2_with fail
  refine (unhide K2).mono ?_
  rintro ev w' ⟨rfl, rfl⟩
  go_wp2_with fail
  refine (unhide K3).mono ?_
  rintro ev w' ⟨r, rfl, hr, hr2, rfl⟩
  have HR := hide hr2
  have HR1 := hide hr
  clear hr2 hr
  go_wp2_with fail
  refine (unhide K4 r (unhide HR1) (rtm_eqm (unhide HR).symm (rtk_rtm hk))).mono ?_
  rintro ev w' ⟨Y, rfl, hY, hr, hw⟩
  go_wp2
  go_ret
  exact ⟨Y, rfl, fun i hi => ⟨(hY i hi).1, (hY i hi).2.trans (fm_eqm (unhide HR) _ _ fun _ _ => Eqm.refl _)⟩, hr, hw⟩

set_option maxRecDepth 100000 in
set_option maxHeartbeats 1000000 in
/-- ntt.Inverse. -/
theorem ntInverse_core (k N H b off cap : Nat) (X : Nat → Nat) (w : World) (hk : k ≤ 10) (h1 : 1 ≤ k) (hN : Hid (N = 2 ^ k)) (hH2 : 2 * H = N) (hN2 : N ≤ 1024) (hcap : N ≤ cap) (hcap2 : cap ≤ 1099511627776)
    (hrow : Row w b off N (wrd X)) (hX : ∀ i, i < N → X i < 998244353) (hfree : Free w b off N) :
    Calls Taig.prog 145 #[.slice (some ⟨b, off, none⟩) N cap] w fun e w' => ∃ Y, e = .returned (.bool true) ∧ (∀ i, i < N → Y i < 998244353 ∧ Eqm (Y i * N) (FM (irt k) X N i)) ∧ Row w' b off N (wrd Y) ∧ Wr b off (off + N) w w' := by
  have hN0 : 0 < N := by rw [unhide hN]; exact Nat.two_pow_pos k
  have hbl := hrow.block_lt hN0
  have K1 := hide (ntLevel_any k N (by omega) hN w)
  have K2 := hide (ntBelow_any b off N cap X w hrow hX (by omega))
  have K3 := hide (ntRoot2 k w hk)
  have K3b := hide (fun r hr => invMod_any r w hr)
  have K4 := hide (fun v hv hw => transform_core k N H b off cap v X w hk h1 hN hH2 hN2 hcap hcap2 hv hw hrow hX hfree)
  clear hX
  go_enter Taig.func145, Taig.ntmps145
  go_wp2_with fail
  refine (unhide K1).mono ?_
  rintro ev w' ⟨rfl, rfl⟩
  go_wp2_with fail
  refine (unhide K2).mono ?_
  rintro ev w' ⟨rfl, rfl⟩
  go_wp2_with fail
  refine (unhide K3).mono ?_
  rintro ev w' ⟨r, rfl, hr, hr2, rfl⟩
  have HR := hide hr2
  have HR1 := hide hr
  clear hr2 hr
  go_wp2_with fail
  refine (unhide K3b r (Nat.lt_trans (unhide HR1) (by decide))).mono ?_
  rintro ev w' ⟨v, rfl, hv, hv2, rfl⟩
  have HV : Hid (Eqm v (irt k)) := by
    obtain ⟨e, he⟩ : ∃ e : Nat, e = 998244351 := ⟨_, rfl⟩
    exact (hv2 e he).trans (((unhide HR).pow e).trans (irt_eqm k e he).symm)
  have HV1 := hide hv
  clear hv hv2
  go_wp2_with fail
  refine (unhide K4 v (unhide HV1) (rtm_eqm (unhide HV).symm (irt_rtm hk))).mono ?_
  rintro ev w1 ⟨Z, rfl, hZ, hr1, hw1⟩
  have HZ := hide hZ
  clear hZ
  have K5 := hide (invMod_any N w1 (by omega))
  go_wp2_with fail
  refine (unhide K5).mono ?_
  rintro ev w' ⟨u, rfl, hu, hu2, rfl⟩
  have HU : Hid (Eqm (u * N) 1) := by
    rw [unhide hN] at hu2 ⊢
    exact len_inv hu2
  have HU1 := hide hu
  clear hu2
  have K6 := hide (factorOf_any u w1 hu)
  go_wp2_with fail
  refine (unhide K6).mono ?_
  rintro ev w2 ⟨rfl, hb2⟩
  unfold fac
  have hba := below_alloc w2 (.cells #[.int .u32 (u : Int), .int .u32 (rat u : Int)] 173)
  have s2 := hb2.size
  have s1 := hw1.size
  have hr2 := (hr1.keep hb2).keep hba
  have hw2 : Wr b off (off + N) w (w2.alloc (.cells #[.int .u32 (u : Int), .int .u32 (rat u : Int)] 173)) := (hw1.trans (Wr.of_below hb2 (by omega))).trans (Wr.of_below hba (by omega))
  have hby : Row (w2.alloc (.cells #[.int .u32 (u : Int), .int .u32 (rat u : Int)] 173)) w2.heap.size 0 2 (frw fun _ => u) := row_new _ _ _ _ _ (fun i hi => by
    match i, hi with
    | 0, _ => rfl
    | 1, _ => rfl)
  have hne : w2.heap.size ≠ b := by omega
  go_wp2
  go_loopg [6] N (fun gi iv wr => ∃ (i : Nat) (Y : Nat → Nat), gi = N - i ∧ i ≤ N ∧ iv = .int .i64 i ∧ Hid (∀ s, s < i → Y s < 998244353 ∧ Eqm (Y s * N) (Z s)) ∧ Hid (∀ s, i ≤ s → Y s = Z s) ∧ Row wr b off N (wrd Y) ∧ Row wr w2.heap.size 0 2 (frw fun _ => u) ∧ Wr b off (off + N) w wr)
  case atStart => exact ⟨0, Z, rfl, Nat.zero_le _, rfl, fun i hi => absurd hi (by omega), fun _ _ => rfl, hr2, hby, hw2⟩
  case round =>
    clear hr2 hby hw2 hr1 hw1 hba
    obtain ⟨i, Y, rfl, hi, rfl, hdo, hre, hr4, hby, hw4⟩ := hrel
    by_cases hil : i < N
    · have hfx := hfree.wr hw4 hbl
      have c1 := hr4.cell hil
      have f1 := hfx i hil
      simp only [wrd_at] at c1
      rw [unhide hre i (Nat.le_refl _)] at c1
      have a1 := (unhide HZ i hil).1
      obtain ⟨x, hx⟩ : ∃ x, Hid (Z i = x) := ⟨_, rfl⟩
      rw [unhide hx] at c1 a1
      have k2 := hby.cell (i := 0) (by decide)
      have k3 := hby.cell (i := 1) (by decide)
      rw [show frw (fun _ => u) 0 = .int .u32 (u : Int) from rfl] at k2
      rw [show frw (fun _ => u) 1 = .int .u32 (rat u : Int) from rfl] at k3
      simp only [Nat.add_zero, Nat.zero_add] at k2 k3
      have hblr : b < wr.heap.size := Nat.lt_of_lt_of_le hbl hw4.size
      have KT := hide (fun wx => times_any u x wx (unhide HU1) (by omega))
      unfold fac at KT
      have HC : Hid (∀ wa wb : World, wa.heap.size = wr.heap.size → (∀ a, wa.cell? a = wr.cell? a) → (∀ a, wa.frozen? a = wr.frozen? a) → Below wa.heap.size wa wb →
          wb.cell? ⟨b, off + i, none⟩ = some (.int .u32 (x : Int)) ∧ wb.frozen? ⟨b, off + i, none⟩ = false) := by
        intro wa wb hs hc hf h1
        have z1 : b < wa.heap.size := by omega
        rw [h1.cell z1, h1.frozen z1, hc, hf]
        exact ⟨c1, f1⟩
      go_wp2
      go_region_with (first | (go_at_call 163; refine (unhide KT _).mono ?_; rintro e w' ⟨y, rfl, hy, hy2, hb5⟩; obtain ⟨z1, z2⟩ := unhide HC wr.drew _ rfl (fun _ => rfl) (fun _ => rfl) hb5) | (go_at_call 162; refine (fold_any _ _ (by assumption)).mono ?_; rintro e w' ⟨rfl, rfl⟩))
      all_goals
        have r1 : Row w' b off N (wrd Y) := by refine Row.keep ?_ hb5; exact hr4
        have r2 : Row w' w2.heap.size 0 2 (frw fun _ => u) := by refine Row.keep ?_ hb5; exact hby
        have w5 : Wr b off (off + N) w w' := hw4.drew.trans (Wr.of_below hb5 hblr)
        have HE : Hid (y % 998244353 < 998244353 ∧ Eqm (y % 998244353 * N) (Z i)) := by
          refine ⟨Nat.mod_lt _ (by decide), ?_⟩
          have e1 := (((eqm_mod y).trans hy2).mul (Eqm.refl N))
          rw [Nat.mul_assoc] at e1
          have e2 := e1.trans ((Eqm.refl x).mul (unhide HU))
          rw [Nat.mul_one] at e2
          rw [unhide hx]; exact e2
        clear hy2
        go_wp2
        go_roundg (N - (i + 1))
        case measure => omega
        case rel => exact ⟨i + 1, upd Y i (y % 998244353), rfl, by omega, by go_num, fun s hs => by
          by_cases e : s = i
          · subst e; rw [upd_at]; exact unhide HE
          · rw [upd_ne _ _ e]; exact unhide hdo s (by omega), fun s hs => by rw [upd_ne _ _ (by omega)]; exact unhide hre s (by omega), r1.wput i _ hil rfl (by omega), r2.setOther (.inl (by omega)) _, w5.setCell (by omega) (by omega) _⟩
    · obtain rfl : i = N := by omega
      go_wp2
      go_ret
      exact ⟨Y, rfl, fun s hs => ⟨(unhide hdo s hs).1, (unhide hdo s hs).2.trans ((unhide HZ s hs).2.trans (fm_eqm (unhide HV) _ _ fun _ _ => Eqm.refl _))⟩, hr4, hw4⟩
end Go.Proofs.Ygctai
