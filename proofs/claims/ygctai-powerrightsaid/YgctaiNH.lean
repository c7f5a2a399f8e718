/-
  ntt.passes.
-/
import Derived.Test.YgctaiNG
namespace Go.Proofs.Ygctai
open Go.RowKit
set_option linter.unusedVariables false

/-- Writes in a block that is new leave the old ones. -/
theorem Wr.fresh {b lo hi b2 lo2 hi2 : Nat} {w0 w1 w2 : World} (h : Wr b lo hi w0 w1) (k : Wr b2 lo2 hi2 w1 w2) (hb : w0.heap.size ≤ b2) (hl : b < w0.heap.size) : Wr b lo hi w0 w2 := by
  have hs := h.size
  have e : w2.heap[b]? = w1.heap[b]? := k.block b (by omega) (by omega)
  exact ⟨k.os.trans h.os, k.tape.trans h.tape, k.output.trans h.output, Nat.le_trans h.size k.size, fun i hi' hb' => (k.block i (by omega) (by omega)).trans (h.block i hi' hb'),
    fun o ho => (World.cell?_of_block (w := w1) e).trans (h.cell o ho), fun o => (World.frozen?_of_block (w := w1) e).trans (h.frozen o)⟩

/-- Two rows laid in. -/
def blk (Z : Nat → Nat) (s h : Nat) (lo hi : Nat → Nat) : Nat → Nat := fun i => if i < s then Z i else if i < s + h then lo (i - s) else if i < s + h + h then hi (i - (s + h)) else Z i
theorem row_blk {w w' : World} {b off N s h : Nat} {Z lo hi : Nat → Nat} (hr : Row w b off N (wrd Z)) (h1 : Row w' b (off + s) h (wrd lo)) (h2 : Row w' b (off + s + h) h (wrd hi)) (hw : Wr b (off + s) (off + s + h + h) w w') :
    Row w' b off N (wrd (blk Z s h lo hi)) := fun i hi' => by
  unfold wrd blk
  split
  · rw [hw.cell _ (by omega)]; exact hr i hi'
  · split
    · have := h1 (i - s) (by omega)
      rw [show off + s + (i - s) = off + i by omega] at this
      exact this
    · split
      · have := h2 (i - (s + h)) (by omega)
        rw [show off + s + h + (i - (s + h)) = off + i by omega] at this
        exact this
      · rw [hw.cell _ (by omega)]; exact hr i hi'

/-- What one pass has done for q blocks. -/
structure PassT (gr Z Zc : Nat → Nat) (h q : Nat) : Prop where
  done : ∀ q' j, q' < q → j < h → Bfm (gr j) (Z (q' * (2 * h) + j)) (Z (q' * (2 * h) + j + h)) (Zc (q' * (2 * h) + j)) (Zc (q' * (2 * h) + j + h))
  rest : ∀ i, q * (2 * h) ≤ i → Zc i = Z i
theorem PassT.start (gr Z : Nat → Nat) (h : Nat) : PassT gr Z Z h 0 := ⟨fun q' j a => absurd a (by omega), fun _ _ => rfl⟩
theorem PassT.step {gr Z Zc lo hi : Nat → Nat} {h q s : Nat} (p : PassT gr Z Zc h q) (hs : s = q * (2 * h)) (hb : ∀ j, j < h → Bfm (gr j) (Zc (s + j)) (Zc (s + h + j)) (lo j) (hi j)) : PassT gr Z (blk Zc s h lo hi) h (q + 1) := by
  subst hs
  constructor
  · intro q' j hq hj
    by_cases e : q' = q
    · subst e
      have := hb j hj
      rw [p.rest _ (by omega), p.rest _ (by omega)] at this
      unfold blk
      rw [if_neg (by omega), if_pos (by omega), if_neg (by omega), if_neg (by omega), if_pos (by omega), Nat.add_sub_cancel_left, show q' * (2 * h) + j + h - (q' * (2 * h) + h) = j by omega, show q' * (2 * h) + j + h = q' * (2 * h) + h + j by omega]
      exact this
    · have h1 : (q' + 1) * (2 * h) ≤ q * (2 * h) := Nat.mul_le_mul_right _ (by omega)
      rw [Nat.add_mul, Nat.one_mul] at h1
      have := p.done q' j (by omega) hj
      unfold blk
      rw [if_pos (by omega), if_pos (by omega)]
      exact this
  · intro i hi
    rw [Nat.add_mul, Nat.one_mul] at hi
    unfold blk
    rw [if_neg (by omega), if_neg (by omega), if_neg (by omega)]
    exact p.rest i (by omega)
theorem PassT.invm {v k m T h : Nat} {X gr Z Zc : Nat → Nat} (hk : k = m + 1 + T) (hw : Rtm v k) (hI : InvM v X (m + 1) T Z) (hh : h = 2 ^ T) (hg : ∀ j, j < h → Eqm (gr j) (v ^ (2 ^ m * j))) (p : PassT gr Z Zc h (2 ^ m)) : InvM v X m (T + 1) Zc := by
  refine invm_step hk hw hI fun s j hs hj => ?_
  have e : (2 : Nat) ^ (T + 1) = 2 * h := by rw [hh, Nat.pow_succ, Nat.mul_comm]
  rw [e]
  obtain ⟨⟨u, h1, h2, h3⟩, _, _⟩ := p.done s j hs (by omega)
  rw [← hh]
  exact ⟨u, h1.trans ((hg j (by omega)).mul (Eqm.refl _)), h2, h3⟩
theorem PassT.lt {gr Z Zc : Nat → Nat} {h q N : Nat} (hN : N = q * (2 * h)) (hh : 0 < h) (p : PassT gr Z Zc h q) (i : Nat) (hi : i < N) : Zc i < 3992977412 := by
  have h1 := Nat.div_add_mod i (2 * h)
  have h2 := Nat.mod_lt i (show 0 < 2 * h by omega)
  have h3 : i / (2 * h) < q := by rw [Nat.div_lt_iff_lt_mul (by omega)]; omega
  rw [Nat.mul_comm] at h1
  by_cases e : i % (2 * h) < h
  · have := (p.done _ _ h3 e).l1
    rwa [h1] at this
  · have := (p.done _ (i % (2 * h) - h) h3 (by omega)).l2
    rwa [show i / (2 * h) * (2 * h) + (i % (2 * h) - h) + h = i by omega] at this
theorem first_invm {v k H : Nat} {X Z : Nat → Nat} (h1 : 1 ≤ k) (hH : H = 2 ^ (k - 1)) (hw : Rtm v k) (hZ : ∀ s, s < H → Z (2 * s) = X (br k (2 * s)) + X (br k (2 * s + 1)) ∧ Z (2 * s + 1) = X (br k (2 * s)) + 998244353 - X (br k (2 * s + 1)))
    (hX : ∀ i, i < 2 ^ k → X i < 998244353) : InvM v X (k - 1) 1 Z := by
  obtain ⟨m, rfl⟩ : ∃ m, k = m + 1 := ⟨k - 1, by omega⟩
  rw [Nat.add_sub_cancel] at hH ⊢
  refine invm_step (t := 0) rfl hw (X := fun q => X (br (m + 1) q)) (invm_start fun q hq => rfl) fun s j hs hj => ?_
  obtain rfl : j = 0 := by simpa using hj
  obtain ⟨e1, e2⟩ := hZ s (by omega)
  have l := hX (br (m + 1) (2 * s + 1)) (br_lt _ _)
  rw [show s * 2 ^ (0 + 1) + 0 + 2 ^ 0 = 2 * s + 1 by rw [Nat.pow_zero, Nat.zero_add, Nat.pow_one]; omega, show s * 2 ^ (0 + 1) + 0 = 2 * s by rw [Nat.zero_add, Nat.pow_one]; omega, Nat.mul_zero, Nat.pow_zero, Nat.one_mul]
  refine ⟨_, Eqm.refl _, by rw [e1]; exact Eqm.refl _, ?_⟩
  rw [e2, Nat.sub_add_cancel (by omega)]
  exact eqm_addP _ 1
end Go.Proofs.Ygctai
