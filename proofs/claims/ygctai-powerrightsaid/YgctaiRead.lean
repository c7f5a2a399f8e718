/-
  newton.join, newton.Read.
-/
import Derived.Test.YgctaiChunks
import Derived.Test.YgctaiMulG
namespace Go.Proofs.Ygctai
open Go.RowKit
set_option linter.unusedVariables false

theorem Pc.congr {w : World} {B : Nat} {a : Option Addr} {n cap : Nat} {p q : Nat → Nat} (h : Pc w B a n cap p) (e : ∀ i, i < n → p i = q i) : Pc w B a n cap q := by
  obtain ⟨c, ho, h⟩ := h
  exact ⟨c, ho, fun i hi => by rw [← e i hi]; exact h i hi⟩
theorem Nt.block {w : World} {B : Nat} {d : Option Addr} {N : Nat} (h : Nt w B d N) : ∀ b o x, d = some ⟨b, o, x⟩ → B ≤ b ∧ b < w.heap.size := fun b o x e => by
  rcases Nat.eq_zero_or_pos N with h0 | h0
  · rw [h.1 h0] at e; cases e
  · obtain ⟨b', o', e', hB, r, _⟩ := h.2 h0
    rw [e'] at e
    injection e with e; injection e with e
    subst e; exact ⟨hB, r.block_lt (dlen_pos h0)⟩

theorem dlen_mul_le {x y m n : Nat} (h1 : dlen x ≤ m) (h2 : dlen y ≤ n) : dlen (x * y) ≤ m + n := by
  rw [dlen_le_iff] at h1 h2 ⊢
  rw [Nat.pow_add]
  exact Nat.mul_lt_mul_of_lt_of_lt h1 h2

/-- Two neighbours joined. -/
def jp (p : Nat → Nat) (m T x : Nat) : Nat := p (2 * x) + (if 2 * x + 1 < m then p (2 * x + 1) else 0) * T

set_option maxRecDepth 100000 in
set_option maxHeartbeats 2000000 in
/-- newton.join. -/
theorem join_any (B : Nat) (a : Option Addr) (n cap : Nat) (p : Nat → Nat) (x : Nat) (T : Nat) (ta : Option Addr) (w0 w : World) (hpc : Pc w0 B a n cap p) (hb0 : Below w0.heap.size w0 w) (hT : Sl w ta (dlen T) (dig T))
    (hx : 2 * x < n) (hn : n ≤ 1048576) (h1 : ∀ i, i < n → dlen (p i) ≤ 512) (h2 : 2 * x + 1 < n → dlen T ≤ 512) :
    Calls Taig.prog 65 #[.slice a n cap, .int .i64 (2 * (x : Int)), .slice ta (dlen T) (dlen T)] w fun e w' => ∃ d, e = .returned (.tuple #[.slice d (dlen (jp p n T x)) (dlen (jp p n T x)), .bool true]) ∧ Nt w' 0 d (jp p n T x) ∧
      (∀ b o y, d = some ⟨b, o, y⟩ → b < w0.heap.size ∨ w.heap.size ≤ b) ∧ Below w.heap.size w w' := by
  have s0 := hb0.size
  by_cases hl : 2 * x + 1 < n
  · have e1 : (2 * (x : Int) + 1 == (n : Int)) = false := by simp; omega
    obtain ⟨b, ad1, rfl, c1, n1⟩ := hpc.at (i := 2 * x) hx
    obtain ⟨b', ad2, eb, c2, n2⟩ := hpc.at (i := 2 * x + 1) hl
    injection eb with eb; injection eb with eb; subst eb
    have c1' : w.cell? ⟨b, 2 * x, none⟩ = some (.slice ad1 (dlen (p (2 * x))) (dlen (p (2 * x)))) := by rw [hb0.cell (World.block_lt_of_cell? _ _ c1)]; exact c1
    have c2' : w.cell? ⟨b, 2 * x + 1, none⟩ = some (.slice ad2 (dlen (p (2 * x + 1))) (dlen (p (2 * x + 1)))) := by rw [hb0.cell (World.block_lt_of_cell? _ _ c2)]; exact c2
    have hj : jp p n T x = p (2 * x) + p (2 * x + 1) * T := by unfold jp; rw [if_pos hl]
    have l1 := h1 _ hx
    have l2 := h1 _ hl
    have l3 := h2 hl
    have K := mulFFT_any ad2 ta _ (dlen (p (2 * x + 1))) _ (dlen T) _ _ w (n2.keep hb0).sl hT (byt_dig _) (byt_dig _) l2 l3
    rw [val_dig_dlen, val_dig_dlen] at K
    have hlen : dlen (p (2 * x + 1) * T) ≤ 512 + 512 := dlen_mul_le l2 l3
    have HK := hide K
    rw [hj]
    have hn1 := (n1.keep hb0)
    clear K hj h1 h2 c1 c2
    generalize p (2 * x) = P0 at *
    generalize p (2 * x + 1) = P1 at *
    generalize P1 * T = PT at *
    go_enter Taig.func65, Taig.ntmps65
    go_wp2_with fail
    refine (unhide HK).mono ?_
    rintro e w1 ⟨d, rfl, hd, hb1⟩
    have c3 : w1.cell? ⟨b, 2 * x, none⟩ = some (.slice ad1 (dlen P0) (dlen P0)) := by rw [hb1.cell (World.block_lt_of_cell? _ _ c1')]; exact c1'
    have s1 := hb1.size
    have K2 := add_any ad1 d _ (dlen P0) _ (dlen PT) _ _ w1 (hn1.keep hb1).sl hd.sl (byt_dig _) (byt_dig _) (Nat.le_refl _) (Nat.le_refl _) (by omega) (by omega) (by omega) (by omega)
    rw [val_dig_dlen, val_dig_dlen] at K2
    have HK2 := hide K2
    clear K2
    go_wp2_with fail
    refine (unhide HK2).mono ?_
    rintro e w2 ⟨d2, rfl, hd2, hb2⟩
    go_wp2
    go_ret2
    exact ⟨d2, rfl, hd2.mono (Nat.zero_le _), fun b o y e => .inr (by have := (hd2.block b o y e).1; omega), hb1.trans (hb2.mono s1)⟩
  · have e1 : (2 * (x : Int) + 1 == (n : Int)) = true := by simp; omega
    obtain ⟨b, ad1, rfl, c1, n1⟩ := hpc.at (i := 2 * x) hx
    have c1' : w.cell? ⟨b, 2 * x, none⟩ = some (.slice ad1 (dlen (p (2 * x))) (dlen (p (2 * x)))) := by rw [hb0.cell (World.block_lt_of_cell? _ _ c1)]; exact c1
    have hj : jp p n T x = p (2 * x) := by unfold jp; rw [if_neg hl, Nat.zero_mul, Nat.add_zero]
    rw [hj]
    clear hj h1 h2 c1
    generalize p (2 * x) = P0 at *
    go_enter Taig.func65, Taig.ntmps65
    go_wp2
    go_ret2
    exact ⟨ad1, rfl, n1.keep hb0, fun b o y e => .inl (n1.block b o y e).2, Below.refl _ _⟩

/-! ### the plain law -/
/-- The base after k joins. -/
def TEN (k : Nat) : Nat := 10000000000000000 ^ (2 ^ k)
theorem ten_succ (k : Nat) : TEN (k + 1) = TEN k * TEN k := by unfold TEN; rw [Nat.pow_succ, Nat.mul_two, Nat.pow_add]
theorem ten_mono {j k : Nat} (h : j ≤ k) : TEN j ≤ TEN k := Nat.pow_le_pow_right (by decide) (Nat.pow_le_pow_right (by decide) h)
theorem ten_zero : 10000000000000000 = TEN 0 := by decide +kernel
theorem ten6 : TEN 6 < 256 ^ 512 := by decide +kernel
theorem ten_pos (k : Nat) : 0 < TEN k := Nat.pow_pos (by decide)

/-- After k joins m pieces stand for D. -/
structure Jn (D k m : Nat) (p : Nat → Nat) : Prop where
  sum : bsv (TEN k) p m = D
  lt : ∀ i, i < m → p i < TEN k
  few : (m - 1) * 2 ^ k < 78
  pos : 0 < m
theorem Jn.k6 {D k m : Nat} {p : Nat → Nat} (h : Jn D k m p) (hm : 1 < m) : k ≤ 6 := by
  have h1 := h.few
  have h2 : 1 * 2 ^ k ≤ (m - 1) * 2 ^ k := Nat.mul_le_mul_right _ (by omega)
  rcases Nat.lt_or_ge k 7 with h3 | h3
  · omega
  · have : 2 ^ 7 ≤ 2 ^ k := Nat.pow_le_pow_right (by decide) h3
    omega
theorem Jn.len {D k m : Nat} {p : Nat → Nat} (h : Jn D k m p) (hm : 1 < m) {x : Nat} (hx : x ≤ TEN k) : dlen x ≤ 512 := by
  rw [dlen_le_iff]
  exact Nat.lt_of_le_of_lt (Nat.le_trans hx (ten_mono (h.k6 hm))) ten6
theorem bsv_join (T : Nat) (p : Nat → Nat) : ∀ j m, 2 * j ≤ m → bsv (T * T) (jp p m T) j = bsv T p (2 * j)
  | 0, _, _ => rfl
  | j + 1, m, h => by
    rw [bsv, bsv_join T p j m (by omega), show 2 * (j + 1) = 2 * j + 1 + 1 by omega, bsv, bsv, jp, if_pos (by omega), Nat.add_mul, Nat.pow_succ, Nat.mul_pow, ← Nat.pow_add, show j + j = 2 * j by omega, Nat.add_assoc, Nat.mul_assoc, Nat.mul_comm T]
theorem jn_step {D k m : Nat} {p : Nat → Nat} (h : Jn D k m p) (hm : 1 < m) : Jn D (k + 1) ((m + 1) / 2) (jp p m (TEN k)) := by
  have h0 := ten_pos k
  refine ⟨?_, fun i hi => ?_, ?_, by omega⟩
  · rw [ten_succ]
    rcases Nat.mod_two_eq_zero_or_one m with e | e
    · have := bsv_join (TEN k) p ((m + 1) / 2) m (by omega)
      rw [this, show 2 * ((m + 1) / 2) = m by omega]; exact h.sum
    · obtain ⟨j, rfl⟩ : ∃ j, m = 2 * j + 1 := ⟨m / 2, by omega⟩
      rw [show (2 * j + 1 + 1) / 2 = j + 1 by omega, bsv, bsv_join (TEN k) p j _ (by omega), jp, if_neg (by omega), Nat.zero_mul, Nat.add_zero, ← Nat.pow_two, ← Nat.pow_mul]
      exact h.sum
  · rw [ten_succ]
    unfold jp
    have h1 := h.lt (2 * i) (by omega)
    have h2 : (if 2 * i + 1 < m then p (2 * i + 1) else 0) ≤ TEN k - 1 := by
      split
      · rename_i h3; have := h.lt _ h3; omega
      · omega
    have h3 := Nat.mul_le_mul_right (TEN k) h2
    rw [Nat.sub_mul, Nat.one_mul] at h3
    have h4 : TEN k * 1 ≤ TEN k * TEN k := Nat.mul_le_mul_left _ h0
    omega
  · have h1 := h.few
    rw [Nat.pow_succ, Nat.mul_comm (2 ^ k) 2, ← Nat.mul_assoc]
    have : ((m + 1) / 2 - 1) * 2 * 2 ^ k ≤ (m - 1) * 2 ^ k := Nat.mul_le_mul_right _ (by omega)
    omega
theorem jn_cut {t p : Nat → Nat} {n k : Nat} (h : Cut t p n k) (h1 : n ≤ 16 * k) (h2 : 16 * k < n + 16) (h3 : n ≤ 1234) (h4 : 0 < n) : Jn (dec t n) 0 k p := by
  have hs := h.sum
  rw [show n - 16 * k = 0 by omega, dec, Nat.zero_mul, Nat.zero_add] at hs
  refine ⟨?_, fun i hi => ?_, by simp; omega, by omega⟩
  · rw [hs]; rfl
  · exact h.lt i hi

/-- Zeros ahead stand for nothing. -/
theorem dec_zeros {t : Nat → Nat} : ∀ (z k : Nat), (∀ i, i < z → t i = 48) → dec (fun i => t (z + i)) k = dec t (z + k)
  | 0, k, _ => dec_congr k (fun i _ => by rw [Nat.zero_add]) |>.trans (by rw [Nat.zero_add])
  | z + 1, k, h => by
    have h1 := dec_zeros z (k + 1) (fun i hi => h i (by omega))
    rw [dec_top, Nat.add_zero, h z (by omega), Nat.sub_self, Nat.zero_mul, Nat.add_zero] at h1
    rw [show z + 1 + k = z + (k + 1) by omega, ← h1]
    exact dec_congr k (fun i _ => by rw [show z + 1 + i = z + (i + 1) by omega])
theorem dec_ge {t : Nat → Nat} (n : Nat) (h0 : 0 < n) (h : 48 < t 0) : 10 ^ (n - 1) ≤ dec t n := by
  obtain ⟨k, rfl⟩ : ∃ k, n = k + 1 := ⟨n - 1, by omega⟩
  rw [dec_top, Nat.add_sub_cancel]
  have : 1 * 10 ^ k ≤ (t 0 - 48) * 10 ^ k := Nat.mul_le_mul_right _ (by omega)
  omega
def tenp (k : Nat) : Nat := 10 ^ k
theorem tenp_mono {j k : Nat} (h : j ≤ k) : tenp j ≤ tenp k := Nat.pow_le_pow_right (by decide) h
theorem tenp_big : 256 ^ 512 ≤ tenp 1234 := by decide +kernel
theorem big_dec {t : Nat → Nat} (n : Nat) (h0 : 1234 < n) (h : 48 < t 0) : 512 < dlen (dec t n) := by
  rw [lt_dlen_iff]
  have h1 := dec_ge n (by omega) h
  have h2 : tenp 1234 ≤ tenp (n - 1) := tenp_mono (by omega)
  exact Nat.le_trans tenp_big (Nat.le_trans h2 h1)

set_option maxRecDepth 100000 in
set_option maxHeartbeats 2000000 in
/-- newton.Read: no digit. -/
theorem newtonRead_bad (a : Option Addr) (n cap : Nat) (t : Nat → Nat) (w : World) (hs : Sl w a n t) (ht : Byt t) (hbad : n = 0 ∨ ∃ i, i < n ∧ ¬ Dgt (t i)) (hn : n ≤ 65536) :
    Calls Taig.prog 29 #[.slice a n cap] w fun e w' => e = .returned (.tuple #[.slice none 0 0, .bool false]) ∧ w = w' := by
  rcases Nat.eq_zero_or_pos n with h0 | h0
  · subst h0
    go_enter Taig.func29, Taig.ntmps29
    go_wp2
    go_ret2
    exact ⟨rfl, rfl⟩
  obtain ⟨b, off, rfl, r⟩ := hs h0
  have HB : Hid (∃ i, i < n ∧ ¬ Dgt (t i)) := by
    rcases hbad with h | h
    · omega
    · exact h
  have e1 : ((n : Int) == 0) = false := by simp; omega
  clear hbad
  go_enter Taig.func29, Taig.ntmps29
  go_wp2
  go_loopg [4] n (fun gk iv wr => ∃ (i : Nat), gk = n - i ∧ i ≤ n ∧ iv = .int .i64 i ∧ Hid (∀ x, x < i → Dgt (t x)) ∧ w = wr)
  case atStart => exact ⟨0, rfl, by omega, rfl, fun x hx => absurd hx (by omega), rfl⟩
  case round =>
    obtain ⟨i, rfl, hi, rfl, hd, rfl⟩ := hrel
    by_cases hlt : i < n
    · have c1 := r.cell hlt
      simp only [oct_at] at c1
      have b1 := ht i
      by_cases hdi : 48 ≤ t i ∧ t i ≤ 57
      · obtain ⟨d1, d2⟩ := hdi
        go_wp2
        go_roundg (n - (i + 1))
        case measure => omega
        case rel => exact ⟨i + 1, rfl, by omega, by go_num, fun x hx => by
          by_cases e : x = i
          · subst e; exact ⟨d1, d2⟩
          · exact unhide hd x (by omega), rfl⟩
      · by_cases h48 : t i < 48
        · go_wp2
          go_ret2
          exact ⟨rfl, rfl⟩
        · have h57 : 57 < t i := by omega
          go_wp2
          go_ret2
          exact ⟨rfl, rfl⟩
    · exfalso
      obtain ⟨x, hx, hx2⟩ := unhide HB
      exact hx2 (unhide hd x (by omega))

set_option maxRecDepth 100000 in
set_option maxHeartbeats 4000000 in
/-- newton.Read of digits. -/
theorem newtonRead_good (a : Option Addr) (n cap : Nat) (t : Nat → Nat) (w : World) (hs : Sl w a n t) (ht : Byt t) (h0 : 0 < n) (hd : ∀ i, i < n → Dgt (t i)) (hn : n ≤ 65536) (hnc : n ≤ cap) (hcap : cap ≤ 9223372036854775807) :
    Calls Taig.prog 29 #[.slice a n cap] w fun e w' => Below w.heap.size w w' ∧
      ((dlen (dec t n) ≤ 512 ∧ ∃ c, e = .returned (.tuple #[.slice c (dlen (dec t n)) (dlen (dec t n)), .bool true]) ∧ Nt w' 0 c (dec t n)) ∨ (512 < dlen (dec t n) ∧ e = .returned (.tuple #[.slice none 0 0, .bool false]))) := by
  obtain ⟨b, off, rfl, r⟩ := hs h0
  have HD := hide hd
  have e1 : ((n : Int) == 0) = false := by simp; omega
  obtain ⟨D, hD⟩ : ∃ D, Hid (dec t n = D) := ⟨_, rfl⟩
  rw [unhide hD]
  clear hd hs
  go_enter Taig.func29, Taig.ntmps29
  go_wp2
  go_loopg [4] n (fun gk iv wr => ∃ (i : Nat), gk = n - i ∧ i ≤ n ∧ iv = .int .i64 i ∧ w = wr)
  case atStart => exact ⟨0, rfl, by omega, rfl, rfl⟩
  case round =>
    obtain ⟨i, rfl, hi, rfl, rfl⟩ := hrel
    by_cases hlt : i < n
    · have c1 := r.cell hlt
      simp only [oct_at] at c1
      obtain ⟨d1, d2⟩ := unhide HD i hlt
      go_wp2
      go_roundg (n - (i + 1))
      case measure => omega
      case rel => exact ⟨i + 1, rfl, by omega, by go_num, rfl⟩
    · go_wp2
      go_loopg [0] n (fun gk tv wr => ∃ (z c : Nat), gk = n - z ∧ z < n ∧ tv = .slice (some ⟨b, off + z, none⟩) (n - z) c ∧ n - z ≤ c ∧ c ≤ 9223372036854775807 ∧ Hid (∀ x, x < z → t x = 48) ∧ w = wr)
      case atStart => exact ⟨0, cap, rfl, h0, rfl, hnc, hcap, fun x hx => absurd hx (by omega), rfl⟩
      case round =>
        obtain ⟨z, c, rfl, hz, rfl, hc1, hc2, hz48, rfl⟩ := hrel
        have c1 := r.cell hz
        simp only [oct_at] at c1
        by_cases hmore : 1 < n - z ∧ t z = 48
        · obtain ⟨h1, h48⟩ := hmore
          have H48 := hide h48
          rw [h48] at c1
          clear h48
          go_wp2
          go_roundg (n - (z + 1))
          case measure => omega
          case rel => exact ⟨z + 1, n - (z + 1), rfl, by omega, by go_num, by omega, by omega, fun x hx => by
            by_cases e : x = z
            · subst e; exact unhide H48
            · exact unhide hz48 x (by omega), rfl⟩
        · have hzn : Hid (n = z + (n - z)) := by unfold Hid; omega
          have hDz : Hid (dec (fun i => t (z + i)) (n - z) = D) := by unfold Hid; rw [dec_zeros z (n - z) (unhide hz48), ← unhide hzn]; exact unhide hD
          have F1 : Hid (1234 < n - z → 512 < dlen D) := fun h => by
            have := big_dec (t := fun i => t (z + i)) (n - z) h (by
              obtain ⟨d1, d2⟩ := unhide HD z hz
              show 48 < t z
              omega)
            rwa [unhide hDz] at this
          have KC := hide (chunks_any (some ⟨b, off + z, none⟩) (n - z) c (fun i => t (z + i)) w (fun _ => ⟨_, _, rfl, r.shift (by omega)⟩) (fun i => ht _) (fun i hi => unhide HD _ (by omega)) (by omega))
          have hcase : (1 < n - z ∧ ((t z : Int) == 48) = false) ∨ n - z ≤ 1 := by
            rcases Nat.lt_or_ge 1 (n - z) with h | h
            · exact .inl ⟨h, by simp; omega⟩
            · exact .inr (by omega)
          clear hmore
          have hnz : 0 < n - z := by omega
          have hnz2 : n - z ≤ n := by omega
          generalize n - z = n' at *
          clear hzn hz48
          have hb1 : ∀ (k : Nat) (p : Nat → Nat), Cut (fun i => t (z + i)) p n' k → n' ≤ 16 * k → 16 * k < n' + 16 → n' ≤ 1234 → Jn D 0 k p := fun k p h1 h2 h3 h4 => by
            have := jn_cut h1 h2 h3 h4 hnz
            rwa [unhide hDz] at this
          have HJ := hide hb1
          clear hb1
          rcases hcase with ⟨h1, h2⟩ | h1
          all_goals
            by_cases hbig : 1234 < n'
            · first
              | omega
              | (go_wp2
                 go_ret2
                 exact ⟨Below.refl _ _, .inr ⟨unhide F1 hbig, rfl⟩⟩)
            · have q1 : decide (1234 < n') = false := decide_eq_false hbig
              have q2 : decide ((1234 : Int) < (n' : Int)) = false := by simp; omega
              go_wp2_with fail
              refine (unhide KC).mono ?_
              rintro e w1 ⟨d1, k1, cp1, p1, rfl, hpc1, hk1, hcut1, hk2, hb1⟩
              have hj1 := hide (unhide HJ k1 p1 hcut1 hk2 hk1 (by omega))
              have s1 := hb1.size
              clear hcut1
              go_wp2_with fail
              refine (small_any 10000000000000000 (by omega) w1).mono ?_
              rintro e w2 ⟨ta, rfl, hta, hb2⟩
              have s2 := hb2.size
              have hpc2 := hpc1.keep hb2
              have hb12 := hb1.trans (hb2.mono s1)
              obtain ⟨T0, h16, h17⟩ : ∃ T0, 10000000000000000 = T0 ∧ Hid (T0 = TEN 0) := ⟨_, rfl, ten_zero⟩
              have hkk : k1 ≤ 100 := by omega
              rw [h16] at hta ⊢
              clear hb1 hb2 hpc1 hk1 hk2 h16
              go_wp2
              go_loopg [5, 6] k1 (fun gm pv tv wr => ∃ (m k cp T : Nat) (d ta : Option Addr) (p : Nat → Nat), m = gm ∧ m ≤ 100 ∧ pv = .slice d m cp ∧ tv = .slice ta (dlen T) (dlen T) ∧ Hid (1 < m → T = TEN k) ∧ Hid (Jn D k m p) ∧ Pc wr w.heap.size d m cp p ∧ Nt wr 0 ta T ∧ Below w.heap.size w wr)
              case atStart => exact ⟨k1, 0, cp1, T0, d1, ta, p1, rfl, hkk, rfl, rfl, fun _ => h17, hj1, hpc2, hta.mono (Nat.zero_le _), hb12⟩
              case round =>
                obtain ⟨wo, rfl⟩ : ∃ x, x = wr := ⟨wr, rfl⟩
                obtain ⟨m, k, cp, T, d, ta, p, rfl, hm, rfl, rfl, hT, hj, hpc, hta, hb⟩ := hrel
                clear hpc2 hb12 hj1 KC HJ F1
                by_cases h1m : 1 < m
                · have m1 : decide (1 < m) = true := decide_eq_true h1m
                  have m2 : decide ((1 : Int) < (m : Int)) = true := by simp; omega
                  have hTk := hide (unhide hT h1m)
                  have hj' := jn_step (unhide hj) h1m
                  rw [← unhide hTk] at hj'
                  have HJ' := hide hj'
                  have L1 : Hid (∀ i, i < m → dlen (p i) ≤ 512) := fun i hi => (unhide hj).len h1m (Nat.le_of_lt ((unhide hj).lt i hi))
                  have L2 : dlen T ≤ 512 := (unhide hj).len h1m (by rw [unhide hTk]; exact Nat.le_refl _)
                  have hmk : ∀ w, (Instr.makeSlice 66 (.int .i64 0) (.int .i64 (((m : Int) + 1) / 2))).run Taig.prog w = .ok (.slice (some ⟨w.heap.size, 0, none⟩) 0 ((m + 1) / 2)) (w.alloc (made (.slice none 0 0) ((m + 1) / 2) 23)) := fun w => make66cap ((m + 1) / 2) (by omega) w
                  have s0 := hb.size
                  clear hj hj' hT
                  go_wp2
                  clear hmk
                  go_loopg [7, 8] m (fun gj nv iv wi => ∃ (j c2 : Nat) (d2 : Option Addr), gj = m - 2 * j ∧ 2 * j ≤ m + 1 ∧ nv = .slice d2 j c2 ∧ iv = .int .i64 (2 * (j : Int)) ∧ Pc wi wo.heap.size d2 j c2 (jp p m T) ∧ Below wo.heap.size wo wi)
                  case atStart => exact ⟨0, _, _, rfl, by omega, rfl, rfl, pc_made _ _ _ _ _ _ (Nat.le_refl _), below_alloc _ _⟩
                  case round =>
                    obtain ⟨j, c2, d2, rfl, hj2, rfl, rfl, hpc3, hb3⟩ := hrel
                    have s3 := hb3.size
                    by_cases hjm : 2 * j < m
                    · have KJ := hide (join_any w.heap.size d m cp p j T ta wo wr hpc hb3 (hta.keep hb3).sl hjm (by omega) (unhide L1) (fun _ => L2))
                      go_wp2_with fail
                      refine (unhide KJ).mono ?_
                      rintro e w4 ⟨q, rfl, hq, hqb, hb4⟩
                      have s4 := hb4.size
                      have hba := below_alloc w4 (.cells #[.slice q (dlen (jp p m T j)) (dlen (jp p m T j))] 23)
                      obtain ⟨d', c', w5, hr, hpc5, hg, hd'⟩ := pc_append (w4.alloc (.cells #[.slice q (dlen (jp p m T j)) (dlen (jp p m T j))] 23)) wo.heap.size d2 j c2 (jp p m T) ((hpc3.keep hb4).keep hba) w4.heap.size (jp p m T j) q (by rw [World.cell?_alloc_at _ _ _ _ rfl]; rfl) (hq.keep hba)
                        (fun b o y e1 e2 => by
                          have h1 := hpc3.block b e1
                          have h2 := hqb b o y e2
                          omega) (by omega) (by simp; omega)
                      have hb5 := hg.below ((hb3.trans (hb4.mono s3)).trans (hba.mono (by omega))) (by simp; omega) (fun k hk e => by have := (hpc3.block k e).1; omega)
                      have hpc6 := hpc5.congr (q := jp p m T) (fun i hi => by
                        by_cases e : i = j
                        · rw [e, upd_at]
                        · rw [upd_ne _ _ e])
                      generalize jp p m T j = V at *
                      go_wp2_with (at_builtin; refine wpList_append_run rfl _ _ 66 rfl _ _ _ rfl rfl hr ?_)
                      go_roundg (m - 2 * (j + 1))
                      case measure => omega
                      case rel => exact ⟨j + 1, c', d', rfl, by omega, rfl, int_eq (by omega), hpc6, hb5⟩
                    · have hjm2 : Hid ((m + 1) / 2 = j) := by unfold Hid; omega
                      have HJ2 := unhide HJ'
                      rw [unhide hjm2] at HJ2
                      have HJ3 := hide HJ2
                      have hj3 : j < m := by omega
                      clear HJ2 HJ' hjm2
                      by_cases hj1 : 1 < j
                      · have KM := mulFFT_any ta ta _ (dlen T) _ (dlen T) _ _ wr (hta.keep hb3).sl (hta.keep hb3).sl (byt_dig _) (byt_dig _) L2 L2
                        rw [val_dig_dlen] at KM
                        have HKM := hide KM
                        clear KM
                        have hTT : Hid (T * T = TEN (k + 1)) := by unfold Hid; rw [ten_succ, unhide hTk]
                        clear hTk
                        generalize T * T = TT at *
                        go_wp2_with fail
                        refine (unhide HKM).mono ?_
                        rintro e w4 ⟨q, rfl, hq, hb4⟩
                        go_wp2
                        go_roundg j
                        case measure => omega
                        case rel => exact ⟨j, k + 1, c2, TT, d2, q, jp p m T, rfl, by omega, rfl, rfl, fun _ => hTT, HJ3, (hpc3.keep hb4).mono s0, hq.mono (Nat.zero_le _), (hb.trans (hb3.mono s0)).trans (hb4.mono (by omega))⟩
                      · go_wp2
                        go_roundg j
                        case measure => omega
                        case rel => exact ⟨j, k + 1, c2, T, d2, ta, jp p m T, rfl, by omega, rfl, rfl, fun h => absurd h hj1, HJ3, hpc3.mono s0, hta.keep hb3, hb.trans (hb3.mono s0)⟩
                · have hm1 : m = 1 := by have := (unhide hj).pos; omega
                  subst hm1
                  have hp0 : p 0 = D := by have := (unhide hj).sum; simpa [bsv] using this
                  obtain ⟨b0, ad, rfl, c0, n0⟩ := hpc.at (i := 0) (by omega)
                  rw [hp0] at c0 n0
                  clear hp0 hj hT
                  by_cases hD5 : 512 < dlen D
                  · go_wp2
                    go_ret2
                    exact ⟨hb, .inr ⟨hD5, rfl⟩⟩
                  · go_wp2
                    go_ret2
                    exact ⟨hb, .inl ⟨by omega, ad, rfl, n0⟩⟩
end Go.Proofs.Ygctai
