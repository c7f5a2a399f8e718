/-
  nlong: up, down, value, lead; plain: reciprocals.
-/
import Derived.Test.YgctaiMG
import Derived.Test.YgctaiLA2
namespace Go.Proofs.Ygctai
open Go.RowKit
set_option linter.unusedVariables false

set_option maxRecDepth 100000 in
set_option maxHeartbeats 1000000 in
/-- nlong.up. -/
theorem nlUp_any (a : Option Addr) (X k : Nat) (w : World) (h : Sl w a (dlen X) (dig X)) (bx : dlen X ≤ 1099511627776) (bk : k ≤ 1099511627776) :
    Calls Taig.prog 101 #[.slice a (dlen X) (dlen X), .int .i64 k] w fun e w' => ∃ c, e = .returned (.slice c (dlen (X * 256 ^ k)) (dlen (X * 256 ^ k))) ∧ Nt w' w.heap.size c (X * 256 ^ k) ∧ Below w.heap.size w w' := by
  rcases Nat.eq_zero_or_pos X with hX | hX
  · subst hX
    rw [Nat.zero_mul, dlen_zero]
    go_enter Taig.func101, Taig.ntmps101
    go_wp2
    go_ret
    exact ⟨none, rfl, Nt.nil _ _, Below.refl _ _⟩
  have hd := dlen_pos hX
  have HL := hide (dlen_mul_pow k hX)
  have e1 : ((dlen X : Int) == 0) = false := by simp; omega
  have hmk : ∀ w, (Instr.makeSlice 23 (.int .i64 ((k : Int) + (dlen X : Int))) (.int .i64 ((k : Int) + (dlen X : Int)))).run Taig.prog w = .ok (.slice (some ⟨w.heap.size, 0, none⟩) (k + dlen X) (k + dlen X)) (w.alloc (made (.int .u8 0) (k + dlen X) 5)) := fun w => make23 (k + dlen X) (by omega) w
  have hba := below_alloc w (made (.int .u8 0) (k + dlen X) 5)
  have hrow := row_made w (.int .u8 0) (k + dlen X) 5
  have hfree := free_made w (.int .u8 0) (k + dlen X) 5
  have hr2 : Row (w.alloc (made (.int .u8 0) (k + dlen X) 5)) w.heap.size (0 + k) (dlen X) (oct (fun _ => 0)) := hrow.shift (m := dlen X) (k := k) (by omega)
  have hf2 := hfree.shift (m := dlen X) (k := k) (by omega)
  obtain ⟨w2, hrun, hwr, hrow2⟩ := copy_oct 23 23 3 Taig.underlying23 (w.alloc (made (.int .u8 0) (k + dlen X) 5)) w.heap.size (0 + k) (dlen X) (dlen X) a (dlen X) (dlen X) (dig X) (fun _ => 0) hr2 hf2 (h.keep hba)
  rw [Nat.min_self] at hrun hwr hrow2
  rw [Nat.zero_add] at hrun hwr hrow2
  have hlow : Row w2 w.heap.size 0 k (oct (fun _ => 0)) := (hrow.sub (m := k) (by omega)).wr hwr (by omega)
  have hall : Row w2 w.heap.size 0 (k + dlen X) (oct (dig (X * 256 ^ k))) := fun i hi => by
    rcases Nat.lt_or_ge i k with h1 | h1
    · rw [hlow i h1, oct_at, oct_at, dig_mul_low X h1]
    · obtain ⟨j, rfl⟩ : ∃ j, i = k + j := ⟨i - k, by omega⟩
      have := hrow2 j (by omega)
      rw [oct_at, if_pos (by omega)] at this
      rw [Nat.zero_add, this, oct_at, dig_mul_pow]
  have hfr : Free w2 w.heap.size 0 (k + dlen X) := hfree.wr hwr (by simp)
  have hbel : Below w.heap.size w w2 := hwr.below hba (Nat.le_refl _) (by simp)
  have hpos : 0 < X * 256 ^ k := Nat.mul_pos hX (pow256_pos k)
  have hnt : Nt w2 w.heap.size (some ⟨w.heap.size, 0, none⟩) (X * 256 ^ k) := ⟨fun h0 => by omega, fun _ => ⟨_, _, rfl, Nat.le_refl _, by rw [unhide HL]; exact hall, by rw [unhide HL]; exact hfr⟩⟩
  clear hr2 hf2 hrow hfree hrow2 hlow hall hfr h hpos
  go_enter Taig.func101, Taig.ntmps101
  go_wp2
  go_ret
  exact ⟨_, by rw [unhide HL]; rfl, hnt, hbel⟩

set_option maxRecDepth 100000 in
set_option maxHeartbeats 1000000 in
/-- nlong.down. -/
theorem nlDown_any (B : Nat) (a : Option Addr) (X k : Nat) (w : World) (h : Nt w B a X) (bx : dlen X ≤ 140737488355328) (bk : k ≤ 140737488355328) :
    Calls Taig.prog 73 #[.slice a (dlen X) (dlen X), .int .i64 k] w fun e w' => ∃ c, e = .returned (.slice c (dlen (X / 256 ^ k)) (dlen (X / 256 ^ k))) ∧ Nt w B c (X / 256 ^ k) ∧ w = w' := by
  obtain ⟨h1, h2⟩ := h.down (k := k)
  rcases Nat.lt_or_ge k (dlen X) with hk | hk
  · obtain ⟨b, off, rfl, hn⟩ := h2 hk
    have hl := dlen_div X k
    have HL : Hid (dlen (X / 256 ^ k) = dlen X - k) := hl
    clear h1 h2 h hl
    go_enter Taig.func73, Taig.ntmps73
    go_wp2
    go_ret
    exact ⟨_, by rw [unhide HL]; rfl, hn, rfl⟩
  · have h3 := hide (h1 hk)
    clear h1 h2 h
    go_enter Taig.func73, Taig.ntmps73
    go_wp2
    go_ret
    exact ⟨none, by rw [unhide h3]; rfl, by rw [unhide h3]; exact Nt.nil _ _, rfl⟩


set_option maxRecDepth 100000 in
set_option maxHeartbeats 1000000 in
/-- nlong.value. -/
theorem nlValue_any (a : Option Addr) (X : Nat) (w : World) (h : Sl w a (dlen X) (dig X)) (bx : dlen X ≤ 8) :
    Calls Taig.prog 75 #[.slice a (dlen X) (dlen X)] w fun e w' => e = .returned (.int .u64 X) ∧ w = w' := by
  go_enter Taig.func75, Taig.ntmps75
  go_wp2
  go_loopg [3, 4] (dlen X) (fun gk vv iv wr => ∃ (l v : Nat), l = gk ∧ l ≤ dlen X ∧ iv = .int .i64 ((l : Int) - 1) ∧ vv = .int .u64 v ∧ Hid (v = X / 256 ^ l) ∧ w = wr)
  case atStart => exact ⟨dlen X, 0, rfl, Nat.le_refl _, rfl, rfl, (Nat.div_eq_of_lt (lt_pow_dlen X)).symm, rfl⟩
  case round =>
    obtain ⟨l, v, rfl, hl, rfl, rfl, hv, rfl⟩ := hrel
    by_cases hlt : 0 < l
    · have hv1 : v < 72057594037927936 := by
        rw [unhide hv, Nat.div_lt_iff_lt_mul (pow256_pos _)]
        have h1 := lt_pow_dlen X
        have h2 : 256 ^ dlen X ≤ 72057594037927936 * 256 ^ l := by
          have : (72057594037927936 : Nat) = 256 ^ 7 := by decide
          rw [this, ← Nat.pow_add]; exact pow256_mono (by omega)
        omega
      obtain ⟨j, rfl⟩ : ∃ j, l = j + 1 := ⟨l - 1, by omega⟩
      obtain ⟨b, off, rfl, r⟩ := h (by omega)
      have c1 := r.cell (i := j) (by omega)
      have d1 := dig_lt X j
      have o1 := or64 hv1 d1
      have hv2 : Hid (v * 256 + dig X j = X / 256 ^ j) := by
        unfold Hid
        rw [unhide hv, div_low X j, Nat.mul_comm]
      simp only [oct_at] at c1
      have hj2 : ((j + 1 : Nat) : Int) - 1 = (j : Int) := by omega
      have hjd : j < dlen X := by omega
      rw [hj2]
      clear hj2
      go_wp2
      go_roundg j
      case measure => omega
      case rel => exact ⟨j, v * 256 + dig X j, rfl, by omega, by go_num, int_eq (by omega), hv2, rfl⟩
    · obtain rfl : l = 0 := by omega
      have hvX : Hid (v = X) := by have := unhide hv; rwa [Nat.pow_zero, Nat.div_one] at this
      go_wp2
      go_ret
      exact ⟨by rw [unhide hvX]; rfl, rfl⟩

/-- nlong.lead's number. -/
def ld (D k : Nat) : Nat := if dlen D ≤ k then D * 256 ^ (k - dlen D) else D / 256 ^ (dlen D - k) + 1
theorem ld_in {D k : Nat} (h : dlen D ≤ k) : ld D k = D * 256 ^ (k - dlen D) := if_pos h
theorem ld_out {D k : Nat} (h : k < dlen D) : ld D k = D / 256 ^ (dlen D - k) + 1 := if_neg (by omega)
theorem ld_up (D k : Nat) : D * 256 ^ k ≤ ld D k * 256 ^ dlen D := by
  rcases Nat.lt_or_ge k (dlen D) with h | h
  · rw [ld_out h]
    have h1 : D < (D / 256 ^ (dlen D - k) + 1) * 256 ^ (dlen D - k) := by
      have := Nat.div_add_mod D (256 ^ (dlen D - k))
      have := Nat.mod_lt D (pow256_pos (dlen D - k))
      rw [Nat.add_mul, Nat.one_mul, Nat.mul_comm (D / _)]; omega
    have h2 := Nat.mul_le_mul_right (256 ^ k) (Nat.le_of_lt h1)
    rwa [Nat.mul_assoc, ← Nat.pow_add, show dlen D - k + k = dlen D by omega] at h2
  · rw [ld_in h, Nat.mul_assoc, ← Nat.pow_add, show k - dlen D + dlen D = k by omega]; exact Nat.le_refl _
theorem ld_mono {D h p : Nat} (hp : h ≤ p) : ld D p ≤ ld D h * 256 ^ (p - h) := by
  rcases Nat.lt_or_ge p (dlen D) with c | c
  · rw [ld_out c, ld_out (by omega)]
    have e : D / 256 ^ (dlen D - h) = D / 256 ^ (dlen D - p) / 256 ^ (p - h) := by
      rw [Nat.div_div_eq_div_mul, ← Nat.pow_add, show dlen D - p + (p - h) = dlen D - h by omega]
    rw [e]
    generalize D / 256 ^ (dlen D - p) = y
    have := Nat.div_add_mod y (256 ^ (p - h))
    have := Nat.mod_lt y (pow256_pos (p - h))
    rw [Nat.add_mul, Nat.one_mul, Nat.mul_comm (y / _)]; omega
  · rw [ld_in c]
    have h1 := ld_up D h
    have h2 := Nat.mul_le_mul_right (256 ^ (p - h)) h1
    rw [Nat.mul_assoc, ← Nat.pow_add, show h + (p - h) = p by omega, Nat.mul_right_comm] at h2
    have e : D * 256 ^ p = D * 256 ^ (p - dlen D) * 256 ^ dlen D := by rw [Nat.mul_assoc, ← Nat.pow_add, show p - dlen D + dlen D = p by omega]
    rw [e] at h2
    exact Nat.le_of_mul_le_mul_right h2 (pow256_pos _)
theorem ld_ge {D k : Nat} (hD : 0 < D) (hk : 0 < k) : 256 ^ (k - 1) ≤ ld D k := by
  have h1 := (lt_dlen_iff D (dlen D - 1)).1 (by have := dlen_pos hD; omega)
  have hd := dlen_pos hD
  rcases Nat.lt_or_ge k (dlen D) with c | c
  · rw [ld_out c]
    have : 256 ^ (k - 1) ≤ D / 256 ^ (dlen D - k) := by
      rw [Nat.le_div_iff_mul_le (pow256_pos _), ← Nat.pow_add, show k - 1 + (dlen D - k) = dlen D - 1 by omega]; exact h1
    omega
  · rw [ld_in c]
    have := Nat.mul_le_mul_right (256 ^ (k - dlen D)) h1
    rwa [← Nat.pow_add, show dlen D - 1 + (k - dlen D) = k - 1 by omega] at this
theorem ld_len {D k : Nat} (hD : 0 < D) : dlen (ld D k) ≤ k + 1 := by
  rcases Nat.lt_or_ge k (dlen D) with c | c
  · rw [ld_out c, dlen_le_iff]
    have h1 : D / 256 ^ (dlen D - k) < 256 ^ k := by
      rw [Nat.div_lt_iff_lt_mul (pow256_pos _), ← Nat.pow_add, show k + (dlen D - k) = dlen D by omega]; exact lt_pow_dlen D
    rw [Nat.pow_succ]
    generalize D / 256 ^ (dlen D - k) = y at *
    omega
  · rw [ld_in c, dlen_mul_pow _ hD]; omega

/-- A reciprocal to p digits. -/
def Rl (D p X : Nat) : Prop := ld D p * X < 256 ^ (2 * p)
theorem rl_start {D X : Nat} (hD : 0 < D) (hX : X = 18446744073709551615 / ld D 4) : Rl D 4 X := by
  unfold Rl
  rw [hX]
  have h1 : (256 : Nat) ^ (2 * 4) = 18446744073709551616 := by decide
  rw [h1]
  have := Nat.mul_div_le 18446744073709551615 (ld D 4)
  omega
theorem rl_below {D h p k X : Nat} (hp : p = h + k) (hX : Rl D h X) : ld D p * X * 256 ^ k < 256 ^ (2 * p) := by
  unfold Rl at hX
  have h1 := ld_mono (D := D) (h := h) (p := p) (by omega)
  rw [show p - h = k by omega] at h1
  have h2 := Nat.mul_le_mul_right (X * 256 ^ k) h1
  have h3 : ld D h * 256 ^ k * (X * 256 ^ k) = ld D h * X * 256 ^ (2 * k) := by
    rw [Nat.two_mul, Nat.pow_add, Nat.mul_mul_mul_comm]
  have h4 := Nat.mul_lt_mul_of_pos_right hX (pow256_pos (2 * k))
  rw [← Nat.pow_add, show 2 * h + 2 * k = 2 * p by omega] at h4
  rw [h3] at h2
  rw [Nat.mul_assoc]; omega
theorem rl_refine {D h p k X E t : Nat} (hp : p = h + k) (h2 : 2 ≤ p) (hX : Rl D h X) (hE : E = (256 ^ (2 * p) - ld D p * X * 256 ^ k) / 256 ^ (p - 2)) (ht : t = X * E / 256 ^ (2 * p - k - (p - 2))) : Rl D p (X * 256 ^ k + t) := by
  have hb := rl_below hp hX
  have e1 : E * 256 ^ (p - 2) ≤ 256 ^ (2 * p) - ld D p * X * 256 ^ k := by rw [hE]; exact Nat.div_mul_le_self _ _
  have e2 : t * 256 ^ (2 * p - k - (p - 2)) ≤ X * E := by rw [ht]; exact Nat.div_mul_le_self _ _
  have e0 : 256 ^ (2 * p - k - (p - 2)) * (256 ^ (p - 2) * 256 ^ k) = 256 ^ (2 * p) := by rw [← Nat.pow_add, ← Nat.pow_add, show 2 * p - k - (p - 2) + (p - 2 + k) = 2 * p by omega]
  unfold Rl
  generalize 256 ^ (2 * p - k - (p - 2)) = H at *
  generalize 256 ^ (p - 2) = G at *
  have hR : 0 < 256 ^ (2 * p) := pow256_pos _
  generalize 256 ^ (2 * p) = R at *
  generalize 256 ^ k = K at *
  generalize ld D p = d at *
  have e3 : t * R ≤ X * K * (R - d * X * K) := by
    rw [← e0]
    calc t * (H * (G * K)) = t * H * (G * K) := by ac_rfl
      _ ≤ X * E * (G * K) := Nat.mul_le_mul_right _ e2
      _ = X * K * (E * G) := by ac_rfl
      _ ≤ _ := by rw [e0]; exact Nat.mul_le_mul_left _ e1
  obtain ⟨u, hu⟩ : ∃ u, u = d * X * K := ⟨_, rfl⟩
  rw [← hu] at e3 hb
  obtain ⟨v, hv⟩ : ∃ v, R = u + v := ⟨R - u, by omega⟩
  have e4 : d * (X * K + t) * R ≤ u * R + u * v := by
    rw [Nat.mul_add, Nat.add_mul, ← Nat.mul_assoc, ← hu]
    have := Nat.mul_le_mul_left d e3
    rw [show R - u = v by omega] at this
    have e5 : d * (X * K * v) = u * v := by rw [hu]; ac_rfl
    rw [e5, ← Nat.mul_assoc] at this
    omega
  have e6 : u * R + u * v < R * R := by
    rw [hv, Nat.mul_add, Nat.mul_add, Nat.add_mul, Nat.add_mul]
    have : 0 < v * v := Nat.mul_pos (by omega) (by omega)
    have := Nat.mul_comm u v
    omega
  exact Nat.lt_of_mul_lt_mul_right (Nat.lt_of_le_of_lt e4 e6)
theorem rl_len {D p X : Nat} (hD : 0 < D) (hp : 0 < p) (hX : Rl D p X) : dlen X ≤ p + 1 := by
  rw [dlen_le_iff]
  unfold Rl at hX
  have h1 := Nat.mul_le_mul_right X (ld_ge hD hp)
  have h2 : 256 ^ (p - 1) * X < 256 ^ (p - 1) * 256 ^ (p + 1) := by rw [← Nat.pow_add, show p - 1 + (p + 1) = 2 * p by omega]; omega
  exact Nat.lt_of_mul_lt_mul_left h2
theorem rl_quot {A D p X drop n q : Nat} (hn : n = dlen D) (hd : drop ≤ n) (hX : Rl D p X) (hq : q = A / 256 ^ drop * X / 256 ^ (n + p - drop)) : q * D ≤ A := by
  subst hn
  unfold Rl at hX
  have h1 : q * 256 ^ (dlen D + p - drop) ≤ A / 256 ^ drop * X := by rw [hq]; exact Nat.div_mul_le_self _ _
  have h2 : A / 256 ^ drop * 256 ^ drop ≤ A := Nat.div_mul_le_self _ _
  have h3 := ld_up D p
  have h4 : X * D * 256 ^ p ≤ 256 ^ (dlen D + p) * 256 ^ p := by
    calc X * D * 256 ^ p = X * (D * 256 ^ p) := Nat.mul_assoc _ _ _
      _ ≤ X * (ld D p * 256 ^ dlen D) := Nat.mul_le_mul_left _ h3
      _ = ld D p * X * 256 ^ dlen D := by ac_rfl
      _ ≤ 256 ^ (2 * p) * 256 ^ dlen D := Nat.mul_le_mul_right _ (Nat.le_of_lt hX)
      _ = _ := by rw [← Nat.pow_add, ← Nat.pow_add, show 2 * p + dlen D = dlen D + p + p by omega]
  have h5 := Nat.le_of_mul_le_mul_right h4 (pow256_pos p)
  have h6 : q * D * 256 ^ (dlen D + p) ≤ A * 256 ^ (dlen D + p) := by
    calc q * D * 256 ^ (dlen D + p) = q * 256 ^ (dlen D + p - drop) * (D * 256 ^ drop) := by
          rw [show dlen D + p = dlen D + p - drop + drop by omega, Nat.pow_add]
          rw [show dlen D + p - drop + drop - drop = dlen D + p - drop by omega]
          ac_rfl
      _ ≤ A / 256 ^ drop * X * (D * 256 ^ drop) := Nat.mul_le_mul_right _ h1
      _ = A / 256 ^ drop * 256 ^ drop * (X * D) := by ac_rfl
      _ ≤ A * 256 ^ (dlen D + p) := Nat.mul_le_mul h2 h5
  exact Nat.le_of_mul_le_mul_right h6 (pow256_pos _)

set_option maxRecDepth 100000 in
set_option maxHeartbeats 1000000 in
/-- nlong.lead. -/
theorem nlLead_any (b : Option Addr) (D k : Nat) (w : World) (h : Nt w 0 b D) (hD : 0 < D) (bx : dlen D ≤ 1048576) (bk : k ≤ 1048576) :
    Calls Taig.prog 99 #[.slice b (dlen D) (dlen D), .int .i64 k] w fun e w' => ∃ c, e = .returned (.slice c (dlen (ld D k)) (dlen (ld D k))) ∧ Nt w' w.heap.size c (ld D k) ∧ Below w.heap.size w w' := by
  rcases Nat.lt_or_ge k (dlen D) with hk | hk
  · rw [ld_out hk]
    obtain ⟨j, hj⟩ : ∃ j, Hid (dlen D - k = j) := ⟨_, rfl⟩
    rw [unhide hj]
    have hjI : (dlen D : Int) - (k : Int) = (j : Int) := by have := unhide hj; omega
    have hj2 : j ≤ dlen D := by have := unhide hj; omega
    have K1 := hide (nlDown_any 0 b D j w h (by omega) (by omega))
    go_enter Taig.func99, Taig.ntmps99
    go_wp2_with fail
    refine (unhide K1).mono ?_
    rintro e w' ⟨c, rfl, hc, rfl⟩
    have hl := dlen_div D j
    have K2 := succ_any c _ (dlen (D / 256 ^ j)) _ w hc.sl (byt_dig _) (Nat.le_refl _) (by omega) (by omega)
    rw [val_dig_dlen] at K2
    have HK2 := hide K2
    clear K2 hl
    go_wp2_with fail
    refine (unhide HK2).mono ?_
    rintro e w2 ⟨c2, rfl, hc2, hb2⟩
    go_wp2
    go_ret
    exact ⟨c2, rfl, hc2, hb2⟩
  · rw [ld_in hk]
    obtain ⟨j, hj⟩ : ∃ j, Hid (k - dlen D = j) := ⟨_, rfl⟩
    rw [unhide hj]
    have hjI : (k : Int) - (dlen D : Int) = (j : Int) := by have := unhide hj; omega
    have hj2 : j ≤ k := by have := unhide hj; omega
    have K1 := hide (nlUp_any b D j w h.sl (by omega) (by omega))
    go_enter Taig.func99, Taig.ntmps99
    go_wp2_with fail
    refine (unhide K1).mono ?_
    rintro e w2 ⟨c2, rfl, hc2, hb2⟩
    go_wp2
    go_ret
    exact ⟨c2, rfl, hc2, hb2⟩
end Go.Proofs.Ygctai
