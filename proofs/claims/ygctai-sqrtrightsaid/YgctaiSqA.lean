/-
  newton.root, newton.halved, newton.above.
-/
import Derived.Test.YgctaiDivS
namespace Go.Proofs.Ygctai
open Go.RowKit
set_option linter.unusedVariables false

/-! ### root -/
theorem or_bit64 {s i : Nat} (hi : i < 32) (hs : s < 4294967296) (hm : s % 2 ^ (i + 1) = 0) : bits .or .u64 (s : Int) (IntKind.u64.wrap ((2 : Int) ^ i)) = ((s + 2 ^ i : Nat) : Int) := by
  rw [IntKind.wrap_u64]
  have h0 : 2 ^ i < 2 ^ 32 := Nat.pow_lt_pow_right (by decide) hi
  have h1 := or_bit hm
  have := u64_or_nat s (2 ^ i) (by omega) (by omega)
  rw [h1] at this
  rw [← this]
  congr 1
  rw [show ((2 : Int) ^ i) = ((2 ^ i : Nat) : Int) by simp]
  exact Int.emod_eq_of_lt (by omega) (by omega)

/-- The bits from l on are found. -/
structure Rt (v s l : Nat) : Prop where
  mul : s % 2 ^ l = 0
  le : s * s ≤ v
  lt : v < (s + 2 ^ l) * (s + 2 ^ l)
theorem rt_start {v : Nat} (h : v < 72057594037927936) : Rt v 0 29 := ⟨by simp, by omega, by simp; omega⟩
theorem rt_put {v s i : Nat} (h : Rt v s (i + 1)) (h1 : (s + 2 ^ i) * (s + 2 ^ i) ≤ v) : Rt v (s + 2 ^ i) i := by
  refine ⟨?_, h1, ?_⟩
  · have h2 := h.mul
    have h3 : s % 2 ^ i = 0 := by
      have := Nat.mod_mul_right_mod s (2 ^ i) 2
      rw [← Nat.pow_succ, h2] at this
      simpa using this.symm
    rw [Nat.add_mod_right, h3]
  · have := h.lt
    rw [Nat.pow_succ, Nat.mul_two, ← Nat.add_assoc] at this
    exact this
theorem rt_leave {v s i : Nat} (h : Rt v s (i + 1)) (h1 : v < (s + 2 ^ i) * (s + 2 ^ i)) : Rt v s i := by
  refine ⟨?_, h.le, h1⟩
  have := Nat.mod_mul_right_mod s (2 ^ i) 2
  rw [← Nat.pow_succ, h.mul] at this
  simpa using this.symm
theorem rt_small {v s l : Nat} (h : Rt v s l) (hv : v < 72057594037927936) : s < 268435456 := by
  rcases Nat.lt_or_ge s 268435456 with h1 | h1
  · exact h1
  · have := Nat.mul_le_mul h1 h1
    have := h.le
    omega

set_option maxRecDepth 100000 in
set_option maxHeartbeats 1000000 in
/-- newton.root. -/
theorem root_any (v : Nat) (w : World) (hv : v < 72057594037927936) :
    Calls Taig.prog 90 #[.int .u64 v] w fun e w' => ∃ s : Nat, e = .returned (.int .u64 s) ∧ s * s ≤ v ∧ v < (s + 1) * (s + 1) ∧ s < 268435456 ∧ w = w' := by
  go_enter Taig.func90, Taig.ntmps90
  go_wp2
  go_loopg [3, 4] 29 (fun gl sv iv wr => ∃ (l s : Nat), l = gl ∧ l ≤ 29 ∧ iv = .int .i64 ((l : Int) - 1) ∧ sv = .int .u64 s ∧ Hid (Rt v s l) ∧ w = wr)
  case atStart => exact ⟨29, 0, rfl, by omega, rfl, rfl, rt_start hv, rfl⟩
  case round =>
    obtain ⟨l, s, rfl, hl, rfl, rfl, hrt, rfl⟩ := hrel
    have hs := rt_small (unhide hrt) hv
    rcases Nat.eq_zero_or_pos l with h0 | h0
    · subst h0
      go_wp2
      go_ret
      exact ⟨s, rfl, (unhide hrt).le, by have := (unhide hrt).lt; simpa using this, hs, rfl⟩
    · obtain ⟨i, rfl⟩ : ∃ i, l = i + 1 := ⟨l - 1, by omega⟩
      have o1 := or_bit64 (by omega : i < 32) (by omega) (unhide hrt).mul
      have hp : 2 ^ i ≤ 2 ^ 28 := Nat.pow_le_pow_right (by decide) (by omega)
      obtain ⟨t, HT⟩ : ∃ t, Hid (s + 2 ^ i = t) := ⟨_, rfl⟩
      have ht : t < 536870912 := by rw [← unhide HT]; omega
      rw [unhide HT] at o1
      have htt : t * t < 288230376151711744 := by
        have := Nat.mul_le_mul (show t ≤ 536870911 by omega) (show t ≤ 536870911 by omega)
        omega
      have htz : (t : Int) * (t : Int) < 288230376151711744 := by rw [← Int.natCast_mul]; exact Int.ofNat_lt.2 htt
      have htz0 : (0 : Int) ≤ (t : Int) * (t : Int) := Int.mul_nonneg (by omega) (by omega)
      by_cases hle : t * t ≤ v
      · have H2 : Hid (Rt v t i) := by
          have := rt_put (i := i) (unhide hrt) (by rw [unhide HT]; exact hle)
          rwa [unhide HT] at this
        have hle' : (t : Int) * (t : Int) ≤ (v : Int) := by rw [← Int.natCast_mul]; exact Int.ofNat_le.2 hle
        clear hle htt hp hrt
        go_wp2
        go_roundg i
        case measure => omega
        case rel => exact ⟨i, t, rfl, by omega, by go_num, rfl, H2, rfl⟩
      · have H2 : Hid (Rt v s i) := rt_leave (unhide hrt) (by rw [unhide HT]; omega)
        have hle' : (v : Int) < (t : Int) * (t : Int) := by
          have : v < t * t := by omega
          rw [← Int.natCast_mul]; exact Int.ofNat_lt.2 this
        have hbb : decide ((t : Int) * (t : Int) ≤ (v : Int)) = false := decide_eq_false (Int.not_le.2 hle')
        clear hle htt hp hrt hle'
        go_wp2
        go_roundg i
        case measure => omega
        case rel => exact ⟨i, s, rfl, by omega, by go_num, rfl, H2, rfl⟩

/-! ### halved -/
theorem dig_half (X x : Nat) : dig (X / 2) x = dig X x / 2 + dig X (x + 1) % 2 * 128 := by
  unfold dig
  rw [Nat.div_div_eq_div_mul, Nat.mul_comm 2, ← Nat.div_div_eq_div_mul, Nat.pow_succ, ← Nat.div_div_eq_div_mul]
  generalize X / 256 ^ x = Y
  omega
theorem or_half {x y : Nat} (hx : x < 128) (hy : y < 256) : bits .or .u8 (x : Int) ((y : Int) * 128 % 256) = ((x + y % 2 * 128 : Nat) : Int) := by
  have h1 := Nat.shiftLeft_add_eq_or_of_lt (i := 7) (b := x) (by omega) (y % 2)
  rw [Nat.shiftLeft_eq, Nat.or_comm, Nat.add_comm] at h1
  have h2 := u8_or_nat x (y * 128 % 256) (by omega) (by omega)
  rw [show y * 128 % 256 = y % 2 * 2 ^ 7 by omega, ← h1] at h2
  rw [show ((x + y % 2 * 128 : Nat) : Int) = ((x + y % 2 * 2 ^ 7 : Nat) : Int) from rfl, ← h2]
  congr 1
  omega

set_option maxRecDepth 100000 in
set_option maxHeartbeats 1000000 in
/-- newton.halved: in place. -/
theorem halved_any (B : Nat) (a : Option Addr) (X : Nat) (w : World) (h : Nt w B a X) (bx : dlen X ≤ 1099511627776) (hB : B ≤ w.heap.size) :
    Calls Taig.prog 57 #[.slice a (dlen X) (dlen X)] w fun e w' => ∃ c, e = .returned (.slice c (dlen (X / 2)) (dlen (X / 2))) ∧ Nt w' B c (X / 2) ∧ Below B w w' := by
  rcases Nat.eq_zero_or_pos X with hX | hX
  · subst hX
    obtain rfl := h.1 rfl
    rw [Nat.zero_div, dlen_zero]
    have KN := newtonNormal_any none 0 0 (fun _ => 0) w (fun h => absurd h (by decide)) byt_zero (Nat.le_refl _) (by decide)
    rw [val, dlen_zero, nz_zero] at KN
    have HKN := hide KN
    clear KN h
    go_enter Taig.func57, Taig.ntmps57
    go_wp2
    go_loopg [3] 0 (fun gk iv wr => gk = 0 ∧ iv = .int .i64 0 ∧ w = wr)
    case atStart => exact ⟨rfl, rfl, rfl⟩
    case round =>
      obtain ⟨rfl, rfl, rfl⟩ := hrel
      go_wp2_with fail
      refine (unhide HKN).mono ?_
      rintro e w' ⟨rfl, rfl⟩
      go_wp2
      go_ret
      exact ⟨none, rfl, Nt.nil _ _, Below.refl _ _⟩
  obtain ⟨b, off, rfl, hBb, r, fr⟩ := h.2 hX
  have hd := dlen_pos hX
  have hbl := r.block_lt hd
  obtain ⟨n, HN⟩ : ∃ n, Hid (dlen X = n) := ⟨_, rfl⟩
  have HZ : Hid (dig X n = 0) := dig_ge (by rw [unhide HN]; exact Nat.le_refl _)
  have HV : Hid (∀ g : Nat → Nat, (∀ x, x < n → g x = dig (X / 2) x) → val g n = X / 2) := fun g hg => by
    rw [val_congr n hg, val_dig]
    exact Nat.mod_eq_of_lt (Nat.lt_of_le_of_lt (Nat.div_le_self _ _) (by rw [← unhide HN]; exact lt_pow_dlen X))
  rw [unhide HN] at r fr hd bx ⊢
  obtain ⟨Y, HY⟩ : ∃ Y, Hid (X / 2 = Y) := ⟨_, rfl⟩
  rw [unhide HY] at HV ⊢
  clear h
  go_enter Taig.func57, Taig.ntmps57
  go_wp2
  go_loopg [3] n (fun gk iv wr => ∃ (k : Nat) (g : Nat → Nat), gk = n - k ∧ k ≤ n ∧ iv = .int .i64 k ∧ Byt g ∧ Hid (∀ x, x < k → g x = dig Y x) ∧ Hid (∀ x, k ≤ x → x < n → g x = dig X x) ∧ Row wr b off n (oct g) ∧ Wr b off (off + n) w wr)
  case atStart => exact ⟨0, dig X, rfl, by omega, rfl, byt_dig _, fun x hx => absurd hx (by omega), fun x _ _ => rfl, r, Wr.refl _ _ _ _⟩
  case round =>
    obtain ⟨k, g, rfl, hk, rfl, hg, hlo, hhi, hr, hwr⟩ := hrel
    by_cases hlt : k < n
    · have c1 := hr.cell hlt
      have f1 := (fr.wr hwr hbl) k hlt
      have d1 := dig_lt X k
      have d2 := dig_lt X (k + 1)
      have e1 := unhide hhi k (Nat.le_refl _) hlt
      have HH : Hid (dig Y k = dig X k / 2 + dig X (k + 1) % 2 * 128) := by rw [← unhide HY]; exact dig_half X k
      simp only [oct_at] at c1
      rw [e1] at c1
      clear e1
      by_cases hl1 : k + 1 < n
      · obtain ⟨x0, HX0⟩ : ∃ x0, Hid (dig X k / 2 = x0) := ⟨_, rfl⟩
        have hx0 : x0 < 128 := by rw [← unhide HX0]; omega
        have hfree2 := (fr.wr hwr hbl).setCell ⟨b, off + k, none⟩ (.int .u8 ((dig X k : Int) / 2))
        have hr2 := hr.put (o := off + k) (z := ((dig X k : Int) / 2)) k x0 hlt rfl (by rw [← unhide HX0]; omega)
        have c2 := hr2.cell hl1
        have c3 := hr2.cell hlt
        have e2 := unhide hhi (k + 1) (by omega) hl1
        simp only [oct_at] at c2 c3
        rw [upd_ne _ _ (by omega), e2] at c2
        rw [upd_at] at c3
        have o1 := or_half (x := x0) hx0 d2
        have f2 := (hfree2 k hlt)
        go_wp2
        go_region
        all_goals
          go_wp2
          go_roundg (n - (k + 1))
          case measure => omega
          case rel => exact ⟨k + 1, upd (upd g k x0) k (x0 + dig X (k + 1) % 2 * 128), rfl, by omega, by go_num, (hg.upd _ _ (by omega)).upd _ _ (by omega), fun x hx => by
            by_cases e : x = k
            · rw [e, upd_at, unhide HH, unhide HX0]
            · rw [upd_ne _ _ e, upd_ne _ _ e]; exact unhide hlo x (by omega), fun x h1 h2 => by rw [upd_ne _ _ (by omega), upd_ne _ _ (by omega)]; exact unhide hhi x (by omega) h2, (hr2.put k _ hlt rfl (by omega)).drew, ((hwr.setCell (by omega) (by omega) _).setCell (by omega) (by omega) _).drew⟩
      · have HZ2 : Hid (dig X (k + 1) = 0) := by
          have : k + 1 = n := by omega
          unfold Hid; rw [this]; exact unhide HZ
        go_wp2
        go_roundg (n - (k + 1))
        case measure => omega
        case rel => exact ⟨k + 1, upd g k (dig X k / 2), rfl, by omega, by go_num, hg.upd _ _ (by omega), fun x hx => by
          by_cases e : x = k
          · rw [e, upd_at, unhide HH, unhide HZ2]; omega
          · rw [upd_ne _ _ e]; exact unhide hlo x (by omega), fun x h1 h2 => by rw [upd_ne _ _ (by omega)]; exact unhide hhi x (by omega) h2, hr.put k _ hlt rfl (by omega), hwr.setCell (by omega) (by omega) _⟩
    · have hk' : Hid (k = n) := by unfold Hid; omega
      have hv := unhide HV g (fun x hx => unhide hlo x (by rw [unhide hk']; exact hx))
      have hnt := nt_of_row hg hBb hr (fr.wr hwr hbl)
      rw [hv] at hnt
      have KN := newtonNormal_any (some ⟨b, off, none⟩) n n g wr (fun _ => ⟨_, _, rfl, hr⟩) hg (Nat.le_refl _) (by omega)
      rw [hv] at KN
      have HKN := hide KN
      clear KN hv
      go_wp2_with fail
      refine (unhide HKN).mono ?_
      rintro e w' ⟨rfl, rfl⟩
      go_wp2
      go_ret
      exact ⟨_, rfl, hnt, hwr.below (Below.refl _ _) hBb hB⟩

/-! ### above -/
theorem tp_all' (X : Nat) : tp X (dlen X) = X := by unfold tp; exact Nat.mul_div_cancel _ (pow256_pos _)
theorem sq_lt_of {a b : Nat} (h : a * a < b * b) : a < b := by
  rcases Nat.lt_or_ge a b with h1 | h1
  · exact h1
  · have := Nat.mul_le_mul h1 h1; omega
/-- A start above the root, from the highest digits. -/
theorem above_ok {A k s : Nat} (hk : k ≤ dlen A) (h2 : (dlen A - k) % 2 = 0) (hs : tp A k + 1 < (s + 1) * (s + 1)) : A < (s + 1) * 256 ^ ((dlen A - k) / 2) * ((s + 1) * 256 ^ ((dlen A - k) / 2)) := by
  have e : tp A k = A / 256 ^ (dlen A - k) := by
    unfold tp
    obtain ⟨m, hm⟩ : ∃ m, dlen A = m + k := ⟨dlen A - k, by omega⟩
    rw [hm, Nat.add_sub_cancel, Nat.pow_add, Nat.mul_div_mul_right _ _ (pow256_pos k)]
  rw [e] at hs
  have h3 : A < (A / 256 ^ (dlen A - k) + 1) * 256 ^ (dlen A - k) := by
    rw [← Nat.div_lt_iff_lt_mul (pow256_pos _)]; exact Nat.lt_succ_self _
  have h4 := Nat.mul_le_mul_right (256 ^ (dlen A - k)) (Nat.le_of_lt hs)
  have h5 : (s + 1) * 256 ^ ((dlen A - k) / 2) * ((s + 1) * 256 ^ ((dlen A - k) / 2)) = (s + 1) * (s + 1) * 256 ^ (dlen A - k) := by
    rw [Nat.mul_mul_mul_comm, ← Nat.pow_add, show (dlen A - k) / 2 + (dlen A - k) / 2 = dlen A - k by omega]
  rw [h5]; omega
theorem above_len {s m n : Nat} (hs : s < 268435456) (hm : m + 4 ≤ n) : dlen ((s + 1) * 256 ^ m) ≤ n := by
  rw [dlen_le_iff]
  have h1 : (s + 1) * 256 ^ m ≤ 268435456 * 256 ^ m := Nat.mul_le_mul_right _ (by omega)
  have h2 : 256 ^ (m + 4) ≤ 256 ^ n := pow256_mono hm
  rw [Nat.pow_add] at h2
  have := pow256_pos m
  omega

set_option maxRecDepth 100000 in
set_option maxHeartbeats 1000000 in
/-- newton.above. -/
theorem above_any (a : Option Addr) (A : Nat) (w : World) (ha : Nt w 0 a A) (hA : 0 < A) (lA : dlen A ≤ 512) :
    Calls Taig.prog 56 #[.slice a (dlen A) (dlen A)] w fun e w' => ∃ c S, e = .returned (.slice c (dlen S) (dlen S)) ∧ Nt w' w.heap.size c S ∧ A < S * S ∧ dlen S ≤ 512 ∧ Below w.heap.size w w' := by
  have hd := dlen_pos hA
  have hr2 : (dlen A : Int).tmod 2 = ((dlen A % 2 : Nat) : Int) := by rw [Int.tmod_eq_emod_of_nonneg (by omega)]; omega
  by_cases hsm : dlen A < 7 - dlen A % 2
  · have KT := top_any a A (dlen A) w ha.sl (by omega) (by omega)
    rw [tp_all'] at KT
    have HKT := hide KT
    have hA6 : A < 72057594037927936 := by
      have h1 := (dlen_le_iff A 6).1 (by omega)
      omega
    clear KT
    go_enter Taig.func56, Taig.ntmps56
    go_wp2_with fail
    refine (unhide HKT).mono ?_
    rintro e w' ⟨rfl, rfl⟩
    go_wp2_with fail
    refine (root_any A w hA6).mono ?_
    rintro e w' ⟨s, rfl, hs1, hs2, hs3, rfl⟩
    have KS := small_any (s + 1) (by omega) w
    rw [show ((s + 1 : Nat) : Int) = (s : Int) + 1 by omega] at KS
    have HKS := hide KS
    have HS2 := hide hs2
    clear KS hs1 hs2
    go_wp2_with fail
    refine (unhide HKS).mono ?_
    rintro e w2 ⟨c, rfl, hc, hb2⟩
    go_wp2
    go_ret
    exact ⟨c, s + 1, rfl, hc, HS2, by have := above_len (m := 0) (n := 4) hs3 (by omega); rw [Nat.pow_zero, Nat.mul_one] at this; omega, hb2⟩
  · rcases Nat.mod_two_eq_zero_or_one (dlen A) with hpar | hpar
    · have hp1 : (dlen A : Int) % 2 = 0 := by omega
      have hp2 : ((dlen A % 2 : Nat) : Int) = 0 := by omega
      have hk2 : 7 ≤ dlen A := by omega
      have hk3 : (dlen A - 6) % 2 = 0 := by omega
      have q1 : ((dlen A : Int) - 7).tmod 2 = 1 := by rw [Int.tmod_eq_emod_of_nonneg (by omega)]; omega
      have q2 : ((dlen A : Int) - 7) % 2 = 1 := by omega
      have q3 : ((dlen A : Int) - 6).tdiv 2 = (((dlen A - 6) / 2 : Nat) : Int) := by rw [Int.tdiv_eq_ediv_of_nonneg (by omega)]; omega
      have q4 : ((dlen A : Int) - 6) / 2 = (((dlen A - 6) / 2 : Nat) : Int) := by omega
      have hT := tp_lt A 6
      have hT2 : (256 : Nat) ^ 6 ≤ 281474976710656 := by decide
      have KT := hide (top_any a A 6 w ha.sl (by omega) (by omega))
      have HO : Hid (∀ s, tp A 6 + 1 < (s + 1) * (s + 1) → A < (s + 1) * 256 ^ ((dlen A - 6) / 2) * ((s + 1) * 256 ^ ((dlen A - 6) / 2))) := fun s hs => above_ok (by omega) hk3 hs
      have hm : (dlen A - 6) / 2 + 4 ≤ 512 := by omega
      have hT3 : tp A 6 + 1 < 72057594037927936 := by omega
      clear hsm hr2 hk3 hT hT2
      generalize (dlen A - 6) / 2 = mm at *
      generalize tp A 6 = T at *
      go_enter Taig.func56, Taig.ntmps56
      go_wp2_with fail
      refine (unhide KT).mono ?_
      rintro e w' ⟨rfl, rfl⟩
      have KR := root_any (T + 1) w hT3
      rw [show ((T + 1 : Nat) : Int) = (T : Int) + 1 by omega] at KR
      have HKR := hide KR
      clear KR
      go_wp2_with fail
      refine (unhide HKR).mono ?_
      rintro e w' ⟨s, rfl, hs1, hs2, hs3, rfl⟩
      have KS := small_any (s + 1) (by omega) w
      rw [show ((s + 1 : Nat) : Int) = (s : Int) + 1 by omega] at KS
      have HKS := hide KS
      have HS2 := hide (unhide HO s hs2)
      have HLN := hide (above_len (m := mm) (n := 512) hs3 hm)
      clear KS hs1 hs2
      go_wp2_with fail
      refine (unhide HKS).mono ?_
      rintro e w2 ⟨c, rfl, hc, hb2⟩
      have s2 := hb2.size
      have lS : dlen (s + 1) ≤ 4 := by
        have := above_len (m := 0) (n := 4) hs3 (by omega)
        rwa [Nat.pow_zero, Nat.mul_one] at this
      have KU := hide (up_any c (s + 1) mm w2 hc.sl (by omega) (by omega))
      generalize (s + 1) * 256 ^ mm = S at *
      go_wp2_with fail
      refine (unhide KU).mono ?_
      rintro e w3 ⟨c3, rfl, hc3, hb3⟩
      go_wp2
      go_ret
      exact ⟨c3, S, rfl, hc3.mono s2, HS2, HLN, hb2.trans (hb3.mono s2)⟩
    · have hp1 : (dlen A : Int) % 2 = 1 := by omega
      have hp2 : ((dlen A % 2 : Nat) : Int) = 1 := by omega
      have hk2 : 6 ≤ dlen A := by omega
      have hk3 : (dlen A - 5) % 2 = 0 := by omega
      have q1 : ((dlen A : Int) - 6).tmod 2 = 1 := by rw [Int.tmod_eq_emod_of_nonneg (by omega)]; omega
      have q2 : ((dlen A : Int) - 6) % 2 = 1 := by omega
      have q3 : ((dlen A : Int) - 5).tdiv 2 = (((dlen A - 5) / 2 : Nat) : Int) := by rw [Int.tdiv_eq_ediv_of_nonneg (by omega)]; omega
      have q4 : ((dlen A : Int) - 5) / 2 = (((dlen A - 5) / 2 : Nat) : Int) := by omega
      have hT := tp_lt A 5
      have hT2 : (256 : Nat) ^ 5 ≤ 281474976710656 := by decide
      have KT := hide (top_any a A 5 w ha.sl (by omega) (by omega))
      have HO : Hid (∀ s, tp A 5 + 1 < (s + 1) * (s + 1) → A < (s + 1) * 256 ^ ((dlen A - 5) / 2) * ((s + 1) * 256 ^ ((dlen A - 5) / 2))) := fun s hs => above_ok (by omega) hk3 hs
      have hm : (dlen A - 5) / 2 + 4 ≤ 512 := by omega
      have hT3 : tp A 5 + 1 < 72057594037927936 := by omega
      clear hsm hr2 hk3 hT hT2
      generalize (dlen A - 5) / 2 = mm at *
      generalize tp A 5 = T at *
      go_enter Taig.func56, Taig.ntmps56
      go_wp2_with fail
      refine (unhide KT).mono ?_
      rintro e w' ⟨rfl, rfl⟩
      have KR := root_any (T + 1) w hT3
      rw [show ((T + 1 : Nat) : Int) = (T : Int) + 1 by omega] at KR
      have HKR := hide KR
      clear KR
      go_wp2_with fail
      refine (unhide HKR).mono ?_
      rintro e w' ⟨s, rfl, hs1, hs2, hs3, rfl⟩
      have KS := small_any (s + 1) (by omega) w
      rw [show ((s + 1 : Nat) : Int) = (s : Int) + 1 by omega] at KS
      have HKS := hide KS
      have HS2 := hide (unhide HO s hs2)
      have HLN := hide (above_len (m := mm) (n := 512) hs3 hm)
      clear KS hs1 hs2
      go_wp2_with fail
      refine (unhide HKS).mono ?_
      rintro e w2 ⟨c, rfl, hc, hb2⟩
      have s2 := hb2.size
      have lS : dlen (s + 1) ≤ 4 := by
        have := above_len (m := 0) (n := 4) hs3 (by omega)
        rwa [Nat.pow_zero, Nat.mul_one] at this
      have KU := hide (up_any c (s + 1) mm w2 hc.sl (by omega) (by omega))
      generalize (s + 1) * 256 ^ mm = S at *
      go_wp2_with fail
      refine (unhide KU).mono ?_
      rintro e w3 ⟨c3, rfl, hc3, hb3⟩
      go_wp2
      go_ret
      exact ⟨c3, S, rfl, hc3.mono s2, HS2, HLN, hb2.trans (hb3.mono s2)⟩
end Go.Proofs.Ygctai
