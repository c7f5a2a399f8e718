/-
  newton.chunks.
-/
import Derived.Test.YgctaiPcs
import Derived.Test.YgctaiWhole
namespace Go.Proofs.Ygctai
open Go.RowKit
set_option linter.unusedVariables false

/-- v is what decimals s to j stand for. -/
def Seg (t : Nat → Nat) (s j v : Nat) : Prop := s ≤ j ∧ dec t j = dec t s * 10 ^ (j - s) + v ∧ v < 10 ^ (j - s)
theorem seg_start (t : Nat → Nat) (s : Nat) : Seg t s s 0 := ⟨Nat.le_refl _, by simp, by simp⟩
theorem seg_step {t : Nat → Nat} {s j v : Nat} (h : Seg t s j v) (hd : Dgt (t j)) : Seg t s (j + 1) (10 * v + (t j - 48)) := by
  obtain ⟨h1, h2, h3⟩ := h
  obtain ⟨d1, d2⟩ := hd
  refine ⟨by omega, ?_, ?_⟩
  · rw [dec, h2, show j + 1 - s = (j - s) + 1 by omega, Nat.pow_succ, Nat.mul_add, ← Nat.mul_assoc (dec t s), Nat.mul_comm 10 (dec t s * _), Nat.add_assoc]
  · rw [show j + 1 - s = (j - s) + 1 by omega, Nat.pow_succ]; omega
theorem seg_lt {t : Nat → Nat} {s j v : Nat} (h : Seg t s j v) (hj : j ≤ s + 16) : v < 10000000000000000 := by
  have : 10 ^ (j - s) ≤ 10 ^ 16 := Nat.pow_le_pow_right (by decide) (by omega)
  have := h.2.2
  omega
theorem seg_lt' {t : Nat → Nat} {s j v : Nat} (h : Seg t s j v) (hj : j < s + 16) : v < 1000000000000000 := by
  have : 10 ^ (j - s) ≤ 10 ^ 15 := Nat.pow_le_pow_right (by decide) (by omega)
  have := h.2.2
  omega

/-- k pieces cut off. -/
structure Cut (t p : Nat → Nat) (n k : Nat) : Prop where
  sum : dec t n = dec t (n - 16 * k) * 10000000000000000 ^ k + bsv 10000000000000000 p k
  lt : ∀ i, i < k → p i < 10000000000000000
theorem chop_zero (t p : Nat → Nat) (n : Nat) : Cut t p n 0 := ⟨by simp [bsv], fun i hi => absurd hi (by omega)⟩
theorem chop_step {t p : Nat → Nat} {n k v : Nat} (h : Cut t p n k) (hk : 16 * k < n) (hv : Seg t (n - 16 * k - 16) (n - 16 * k) v) : Cut t (upd p k v) n (k + 1) := by
  have hlt := seg_lt hv (by omega)
  refine ⟨?_, fun i hi => ?_⟩
  · rw [bsv_upd, h.sum, hv.2.1, show n - 16 * (k + 1) = n - 16 * k - 16 by omega]
    rcases Nat.lt_or_ge (n - 16 * k) 16 with h1 | h1
    · rw [show n - 16 * k - 16 = 0 by omega, dec]
      simp [Nat.add_comm]
    · rw [show n - 16 * k - (n - 16 * k - 16) = 16 by omega, show (10 : Nat) ^ 16 = 10000000000000000 from rfl, Nat.pow_succ, Nat.add_mul, Nat.mul_assoc, Nat.mul_comm 10000000000000000 (_ ^ k)]
      omega
  · by_cases e : i = k
    · rw [e, upd_at]; exact hlt
    · rw [upd_ne _ _ e]; exact h.lt i (by omega)

set_option maxRecDepth 100000 in
set_option maxHeartbeats 2000000 in
/-- newton.chunks: the decimals in pieces of sixteen. -/
theorem chunks_any (a : Option Addr) (n cap : Nat) (t : Nat → Nat) (w : World) (hs : Sl w a n t) (ht : Byt t) (hd : ∀ i, i < n → Dgt (t i)) (hn : n ≤ 65536) :
    Calls Taig.prog 63 #[.slice a n cap] w fun e w' => ∃ d k c p, e = .returned (.slice d k c) ∧ Pc w' w.heap.size d k c p ∧ 16 * k < n + 16 ∧ Cut t p n k ∧ n ≤ 16 * k ∧ Below w.heap.size w w' := by
  have HD := hide hd
  clear hd
  go_enter Taig.func63, Taig.ntmps63
  go_wp2
  go_loopg [3, 4] n (fun gk ov ev wr => ∃ (k c : Nat) (d : Option Addr) (p : Nat → Nat), gk = n - 16 * k ∧ 16 * k < n + 16 ∧ ev = .int .i64 ((n : Int) - 16 * (k : Int)) ∧ ov = .slice d k c ∧ Pc wr w.heap.size d k c p ∧ Hid (Cut t p n k) ∧ Below w.heap.size w wr)
  case atStart => exact ⟨0, 0, none, fun _ => 0, by omega, by omega, by simp, rfl, pc_nil _ _ _, chop_zero _ _ _, Below.refl _ _⟩
  case round =>
    obtain ⟨k, c, d, p, rfl, hk, rfl, rfl, hpc, hcut, hb1⟩ := hrel
    by_cases hlt : 16 * k < n
    · go_wp2
      go_loopg [5, 6] 16 (fun gj vv iv wi => ∃ (x v : Nat), gj = 16 - x ∧ x ≤ 16 ∧ iv = .int .i64 ((n : Int) - 16 * (k : Int) - 16 + (x : Int)) ∧ vv = .int .u64 v ∧ Hid (Seg t (n - 16 * k - 16) (max (n - 16 * k - 16) (n - 16 * k - (16 - x))) v) ∧ wr = wi)
      case atStart => exact ⟨0, 0, rfl, by omega, by simp, rfl, by rw [show max (n - 16 * k - 16) (n - 16 * k - (16 - 0)) = n - 16 * k - 16 by omega]; exact seg_start _ _, rfl⟩
      case round =>
        obtain ⟨x, v, rfl, hx, rfl, rfl, hseg, rfl⟩ := hrel
        by_cases hx16 : x < 16
        · by_cases hneg : n + x < 16 * k + 16
          · go_wp2
            go_roundg (16 - (x + 1))
            case measure => omega
            case rel => exact ⟨x + 1, v, rfl, by omega, by go_num, rfl, by rw [show max (n - 16 * k - 16) (n - 16 * k - (16 - (x + 1))) = max (n - 16 * k - 16) (n - 16 * k - (16 - x)) by omega]; exact hseg, rfl⟩
          · obtain ⟨j, HJ⟩ : ∃ j, Hid (j = n - 16 * k - (16 - x)) := ⟨_, rfl⟩
            have hj := unhide HJ
            have hj1 : (n : Int) - 16 * (k : Int) - 16 + (x : Int) = (j : Int) := by omega
            have hseg1 : Seg t (n - 16 * k - 16) j v := by have := unhide hseg; rwa [show max (n - 16 * k - 16) (n - 16 * k - (16 - x)) = j by omega] at this
            have hv := seg_lt' hseg1 (by omega)
            obtain ⟨b, off, rfl, r⟩ := (hs.keep hb1) (by omega)
            have c1 := r.cell (i := j) (by omega)
            have hdj := unhide HD j (by omega)
            have hseg2 := hide (seg_step hseg1 hdj)
            obtain ⟨d1, d2⟩ := hdj
            simp only [oct_at] at c1
            rw [hj1]
            have hj2 : (j : Int) < (n : Int) - 16 * (k : Int) := by omega
            have hj3 : j < n := by omega
            have HN := hide hneg
            have HX := hide hx16
            clear hseg hseg1 hj hj1 hneg hx16
            go_wp2
            go_roundg (16 - (x + 1))
            case measure => have := unhide HJ; have := unhide HN; have := unhide HX; omega
            case rel => exact ⟨x + 1, 10 * v + (t j - 48), rfl, by have := unhide HJ; have := unhide HN; have := unhide HX; omega, int_eq (by have := unhide HJ; have := unhide HN; have := unhide HX; omega), int_eq (by omega), by rw [show max (n - 16 * k - 16) (n - 16 * k - (16 - (x + 1))) = j + 1 by have := unhide HJ; have := unhide HN; have := unhide HX; omega]; exact hseg2, rfl⟩
        · have hseg1 : Seg t (n - 16 * k - 16) (n - 16 * k) v := by have := unhide hseg; rwa [show max (n - 16 * k - 16) (n - 16 * k - (16 - x)) = n - 16 * k by omega] at this
          have hv := seg_lt hseg1 (by omega)
          have HC := hide (chop_step (unhide hcut) hlt hseg1)
          clear hseg hseg1 hcut
          go_wp2_with fail
          refine (small_any v (by omega) wr).mono ?_
          rintro e w2 ⟨q, rfl, hq, hb2⟩
          have s1 := hb1.size
          have s2 := hb2.size
          have hba := below_alloc w2 (.cells #[.slice q (dlen v) (dlen v)] 23)
          have hpc2 := hpc.keep hb2
          obtain ⟨d', c', w3, hr, hpc3, hg, hd'⟩ := pc_append (w2.alloc (.cells #[.slice q (dlen v) (dlen v)] 23)) w.heap.size d k c p (hpc2.keep hba) w2.heap.size v q (by rw [World.cell?_alloc_at _ _ _ _ rfl]; rfl) ((hq.keep hba).mono (by omega))
            (fun b o y e1 e2 => by
              have h1 := (hpc.block b e1).2
              rcases Nat.eq_zero_or_pos v with h0 | h0
              · rw [hq.1 h0] at e2; cases e2
              · obtain ⟨b', o', e', hB', _⟩ := hq.2 h0
                rw [e'] at e2
                injection e2 with e2; injection e2 with e2; omega) (by omega) (by simp; omega)
          have hb3 := hg.below (hb1.trans (hb2.mono s1) |>.trans (hba.mono (by omega))) (by simp; omega) (fun k hk e => by have := (hpc.block k e).1; omega)
          go_wp2_with (at_builtin; refine wpList_append_run rfl _ _ 66 rfl _ _ _ rfl rfl hr ?_)
          go_roundg (n - 16 * (k + 1))
          case measure => omega
          case rel => exact ⟨k + 1, c', d', upd p k v, rfl, by omega, int_eq (by omega), rfl, hpc3, HC, hb3⟩
    · go_wp2
      go_ret
      exact ⟨d, k, c, p, rfl, hpc, hk, hcut, by omega, hb1⟩
end Go.Proofs.Ygctai
