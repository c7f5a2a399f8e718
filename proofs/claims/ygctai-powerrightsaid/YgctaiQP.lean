/-
  Plain: a script's run; the scripts of powers and factorials.
-/
import Derived.Test.YgctaiQB
namespace Go.Proofs.Ygctai
set_option linter.unusedVariables false

def rn (ks vs : Nat → Nat) : Nat → Ms
  | 0 => ⟨0, fun _ => 0, 0⟩
  | i + 1 => stp (ks i) (vs i) (rn ks vs i)
theorem rn_congr {ks vs ks' vs' : Nat → Nat} (n : Nat) (h : ∀ i, i < n → ks i = ks' i ∧ vs i = vs' i) : rn ks vs n = rn ks' vs' n := by
  induction n with
  | zero => rfl
  | succ n ih => rw [rn, rn, ih (fun i hi => h i (by omega)), (h n (by omega)).1, (h n (by omega)).2]
theorem rn_upd (ks vs : Nat → Nat) (n k v : Nat) : rn (upd ks n k) (upd vs n v) (n + 1) = stp k v (rn ks vs n) := by
  rw [rn, upd_at, upd_at, rn_congr n (fun i hi => ⟨upd_ne _ _ (by omega), upd_ne _ _ (by omega)⟩)]

theorem dlen_mul2 {x y m n : Nat} (h1 : dlen x ≤ m) (h2 : dlen y ≤ n) : dlen (x * y) ≤ m + n := by
  rw [dlen_le_iff] at *
  rw [Nat.pow_add]
  exact Nat.mul_lt_mul'' h1 h2

theorem stp_ok (k v : Nat) (s : Ms) (hv : dlen v ≤ 512) (hn : s.n ≤ 16) (hl : ∀ j, j < s.n → dlen (s.S j) ≤ 1024) :
    (stp k v s).n ≤ 16 ∧ (stp k v s).n ≤ s.n + 1 ∧ (stp k v s).o ≤ s.o + 1 ∧ ∀ j, j < (stp k v s).n → dlen ((stp k v s).S j) ≤ 1024 := by
  unfold stp
  split
  · split
    · refine ⟨by simp only; omega, by simp only; omega, by simp only; omega, fun j hj => ?_⟩
      simp only at hj ⊢
      by_cases e : j = s.n
      · subst e; rw [upd_at]; omega
      · rw [upd_ne _ _ e]; exact hl j (by omega)
    · exact ⟨hn, by simp only; omega, by simp only; omega, hl⟩
  · split
    · split
      · rename_i h
        refine ⟨by simp only; omega, by simp only; omega, by simp only; omega, fun j hj => ?_⟩
        simp only at hj ⊢
        by_cases e : j = s.n - 1
        · subst e; rw [upd_at]; exact dlen_mul2 h.2 h.2
        · rw [upd_ne _ _ e]; exact hl j (by omega)
      · exact ⟨hn, by simp only; omega, by simp only; omega, hl⟩
    · split
      · rename_i h
        refine ⟨by simp only; omega, by simp only; omega, by simp only; omega, fun j hj => ?_⟩
        simp only at hj ⊢
        by_cases e : j = s.n - 2
        · subst e; rw [upd_at]; exact dlen_mul2 h.2.1 h.2.2
        · rw [upd_ne _ _ e]; exact hl j (by omega)
      · exact ⟨hn, by simp only; omega, by simp only; omega, hl⟩

theorem rn_ok {ks vs : Nat → Nat} {N : Nat} (h : ∀ i, i < N → dlen (vs i) ≤ 512) : ∀ i, i ≤ N → (rn ks vs i).n ≤ 16 ∧ (rn ks vs i).n ≤ i ∧ (rn ks vs i).o ≤ i ∧ ∀ j, j < (rn ks vs i).n → dlen ((rn ks vs i).S j) ≤ 1024
  | 0, _ => ⟨Nat.zero_le _, Nat.le_refl _, Nat.le_refl _, fun j hj => absurd hj (Nat.not_lt_zero _)⟩
  | i + 1, hi => by
    obtain ⟨h1, h2, h3, h4⟩ := rn_ok h i (by omega)
    obtain ⟨g1, g2, g3, g4⟩ := stp_ok (ks i) (vs i) (rn ks vs i) (h i (by omega)) h1 h4
    exact ⟨g1, Nat.le_trans g2 (by omega), Nat.le_trans g3 (by omega), g4⟩

/-- One entry, nothing put out. -/
def One (s : Ms) (x : Nat) : Prop := s.n = 1 ∧ s.S 0 = x ∧ s.o = 0
theorem one_push (v : Nat) : One (stp 0 v ⟨0, fun _ => 0, 0⟩) v := ⟨rfl, rfl, rfl⟩
theorem One.sqr {s : Ms} {x : Nat} (v : Nat) (h : One s x) (hx : dlen x ≤ 512) : One (stp 4 v s) (x * x) := by
  obtain ⟨n, S, o⟩ := s
  obtain ⟨h1, h2, h3⟩ := h
  simp only at h1 h2 h3
  subst h1; subst h3
  unfold stp
  simp only [show ¬ (4 : Nat) = 0 by decide, if_false, if_true, Nat.sub_self, h2]
  rw [if_pos ⟨Nat.le_refl _, hx⟩]
  refine ⟨rfl, ?_, rfl⟩
  show upd S 0 (x * x) 0 = x * x
  exact upd_at _ _ _
theorem One.times {s : Ms} {x : Nat} (v u : Nat) (h : One s x) (hx : dlen x ≤ 512) (hv : dlen v ≤ 512) : One (stp 1 u (stp 0 v s)) (x * v) := by
  obtain ⟨n, S, o⟩ := s
  obtain ⟨h1, h2, h3⟩ := h
  simp only at h1 h2 h3
  subst h1; subst h3
  have e : stp 0 v ⟨1, S, 0⟩ = ⟨2, upd S 1 v, 0⟩ := rfl
  rw [e]
  unfold stp
  simp only [show ¬ (1 : Nat) = 0 by decide, show ¬ (1 : Nat) = 4 by decide, if_false, show 2 - 2 = 0 from rfl, show 2 - 1 = 1 from rfl]
  rw [upd_at, upd_ne _ _ (show 0 ≠ 1 by decide), h2, if_pos ⟨Nat.le_refl _, hx, hv⟩]
  refine ⟨rfl, ?_, rfl⟩
  show upd (upd S 1 v) 0 (x * v) 0 = x * v
  exact upd_at _ _ _

/-! ### powers -/
theorem pow_dlen (b : Nat) {m e : Nat} (h0 : 0 < m) (h : m ≤ e) : dlen (b ^ m) ≤ dlen (b ^ e) := by
  rcases Nat.eq_zero_or_pos b with rfl | hb
  · rw [Nat.zero_pow h0]; exact Nat.zero_le _
  · exact dlen_mono (Nat.pow_le_pow_right hb h)
theorem half_step (e i : Nat) : e / 2 ^ i = 2 * (e / 2 ^ (i + 1)) + e / 2 ^ i % 2 := by
  rw [Nat.pow_succ, ← Nat.div_div_eq_div_mul]; omega
/-- The script so far: the bits from i on. -/
def Pw (b e i m : Nat) (ks vs : Nat → Nat) : Prop := 0 < e / 2 ^ i ∧ (dlen (b ^ e) ≤ 512 → One (rn ks vs m) (b ^ (e / 2 ^ i)))
theorem Pw.even {b e i m : Nat} {ks vs : Nat → Nat} (v : Nat) (h : Pw b e (i + 1) m ks vs) (h0 : e / 2 ^ i % 2 = 0) : Pw b e i (m + 1) (upd ks m 4) (upd vs m v) := by
  have e1 := half_step e i
  have h1 := h.1
  have hle : e / 2 ^ (i + 1) ≤ e := Nat.div_le_self _ _
  refine ⟨by omega, fun hd => ?_⟩
  rw [rn_upd]
  have := (h.2 hd).sqr v (Nat.le_trans (pow_dlen b h1 hle) hd)
  rw [← Nat.pow_add] at this
  rw [show e / 2 ^ i = e / 2 ^ (i + 1) + e / 2 ^ (i + 1) by omega]
  exact this
theorem Pw.odd {b e i m : Nat} {ks vs : Nat → Nat} (v u : Nat) (h : Pw b e (i + 1) m ks vs) (h0 : e / 2 ^ i % 2 ≠ 0) (hb : dlen b ≤ 512) :
    Pw b e i (m + 3) (upd (upd (upd ks m 4) (m + 1) 0) (m + 2) 1) (upd (upd (upd vs m v) (m + 1) b) (m + 2) u) := by
  have e1 := half_step e i
  have h1 := h.1
  have hle : e / 2 ^ (i + 1) ≤ e := Nat.div_le_self _ _
  have hle' : e / 2 ^ i ≤ e := Nat.div_le_self _ _
  refine ⟨by omega, fun hd => ?_⟩
  rw [rn_upd, rn_upd, rn_upd]
  have := (h.2 hd).sqr v (Nat.le_trans (pow_dlen b h1 hle) hd)
  rw [← Nat.pow_add] at this
  have t := this.times b u (Nat.le_trans (pow_dlen b (by omega) (by omega)) hd) hb
  rw [← Nat.pow_succ] at t
  rw [show e / 2 ^ i = (e / 2 ^ (i + 1) + e / 2 ^ (i + 1)).succ by omega]
  exact t

/-! ### factorials -/
def fct : Nat → Nat
  | 0 => 1
  | n + 1 => fct n * (n + 1)
theorem fct_pos : ∀ n, 0 < fct n
  | 0 => Nat.one_pos
  | n + 1 => Nat.mul_pos (fct_pos n) (Nat.succ_pos n)
theorem fct_mono {m n : Nat} (h : m ≤ n) : fct m ≤ fct n := by
  induction h with
  | refl => exact Nat.le_refl _
  | step _ ih => exact Nat.le_trans ih (Nat.le_mul_of_pos_right _ (Nat.succ_pos _))
/-- The script of P parts whose product is X. -/
structure Fs (P m X : Nat) (ks vs : Nat → Nat) : Prop where
  pos : 0 < X
  one : P = 0 → X = 1 ∧ m = 0
  len : 0 < P → m + 1 = 2 * P
  big : 256 ^ (14 * P) ≤ X
  run : 0 < P → dlen X ≤ 512 → One (rn ks vs m) X
theorem fs_nil (ks vs : Nat → Nat) : Fs 0 0 1 ks vs := ⟨Nat.one_pos, fun _ => ⟨rfl, rfl⟩, fun h => absurd h (by decide), by decide, fun h => absurd h (by decide)⟩
/-- multiplyBy of a first part. -/
theorem Fs.first {X q : Nat} {ks vs : Nat → Nat} (h : Fs 0 0 X ks vs) : rn (upd ks 0 0) (upd vs 0 q) 1 = stp 0 q ⟨0, fun _ => 0, 0⟩ := by rw [rn_upd]; rfl
theorem Fs.more {P m X q : Nat} {ks vs : Nat → Nat} (u : Nat) (h : Fs P m X ks vs) (hP : 0 < P) (hq : 0 < q) (hd : dlen q ≤ 512) (hx : dlen (X * q) ≤ 512) : One (rn (upd (upd ks m 0) (m + 1) 1) (upd (upd vs m q) (m + 1) u) (m + 2)) (X * q) := by
  rw [rn_upd, rn_upd]
  have hX : dlen X ≤ 512 := Nat.le_trans (dlen_mono (Nat.le_mul_of_pos_right _ hq)) hx
  exact (h.run hP hX).times q u hX hd
theorem part_big {q i : Nat} (hi : i < 65536) (h : 16 < dlen (q * i)) : 256 ^ 14 ≤ q := by
  rw [lt_dlen_iff] at h
  rcases Nat.lt_or_ge q (256 ^ 14) with h1 | h1
  · have : q * i ≤ q * 65536 := Nat.mul_le_mul_left _ (by omega)
    have : q * 65536 < 256 ^ 14 * 65536 := Nat.mul_lt_mul_of_pos_right h1 (by decide)
    have e : (256 : Nat) ^ 14 * 65536 = 256 ^ 16 := by decide
    omega
  · exact h1
/-- The script behind multiplyBy, of a finished part. -/
theorem Fs.first' {X q : Nat} {ks vs : Nat → Nat} (h : Fs 0 0 X ks vs) (hq : 256 ^ 14 ≤ q) : Fs 1 1 (X * q) (upd ks 0 0) (upd vs 0 q) := by
  have hX : X = 1 := (h.one rfl).1
  subst hX
  rw [Nat.one_mul]
  refine ⟨Nat.lt_of_lt_of_le (pow256_pos 14) hq, fun h => absurd h (by decide), fun _ => rfl, by simpa using hq, fun _ _ => ?_⟩
  rw [h.first]; exact one_push q
theorem Fs.more' {P m X q : Nat} {ks vs : Nat → Nat} (u : Nat) (h : Fs P m X ks vs) (hP : 0 < P) (hq : 256 ^ 14 ≤ q) (hd : dlen q ≤ 512) : Fs (P + 1) (m + 2) (X * q) (upd (upd ks m 0) (m + 1) 1) (upd (upd vs m q) (m + 1) u) := by
  have hq0 : 0 < q := Nat.lt_of_lt_of_le (pow256_pos 14) hq
  have := h.len hP
  refine ⟨Nat.mul_pos h.pos hq0, fun h => absurd h (by omega), fun _ => by omega, ?_, fun _ hx => h.more u hP hq0 hd hx⟩
  rw [show 14 * (P + 1) = 14 * P + 14 by omega, Nat.pow_add]
  exact Nat.mul_le_mul h.big hq
theorem long_aux {P L X q : Nat} (hL : L ≤ 14 * P) (h : 256 ^ (14 * P) ≤ X) (hq : 0 < q) : L < dlen (X * q) := by
  rw [lt_dlen_iff]
  exact Nat.le_trans (pow256_mono hL) (Nat.le_trans h (Nat.le_mul_of_pos_right _ hq))
/-- Too many parts: too many digits. -/
theorem Fs.long {P m X q : Nat} {ks vs : Nat → Nat} (h : Fs P m X ks vs) (hq : 0 < q) (hm : 128 < m + 2) : 512 < dlen (X * q) := by
  have hP : 0 < P := by
    rcases Nat.eq_zero_or_pos P with e | e
    · have := (h.one e).2; omega
    · exact e
  have hl := h.len hP
  exact long_aux (by omega) h.big hq
end Go.Proofs.Ygctai
