/-
  nschool.SqrtSchool.
-/
import Derived.Test.YgctaiSqB
import Derived.BigFrame
namespace Go.Proofs.Ygctai
open Go.RowKit
set_option linter.unusedVariables false

/-! ### memory -/
theorem DivRows.putR {B n L : Nat} {w w' : World} {bq br bw : Nat} {fq fr fw g : Nat → Nat} (h : DivRows B n L w bq br bw fq fr fw) (hw : Wr br 0 (0 + (L + 1)) w w') (hr : Row w' br 0 (L + 1) (oct g)) : DivRows B n L w' bq br bw fq g fw where
  rq := h.rq.wr hw (.inl h.d1)
  qq := h.qq.wr hw h.l1
  rr := hr
  qr := h.qr.wr hw (h.rr.block_lt (by omega))
  rw := h.rw.wr hw (.inl h.d3.symm)
  qw := h.qw.wr hw (h.rw.block_lt (by omega))
  d1 := h.d1
  d2 := h.d2
  d3 := h.d3
  o1 := h.o1
  o2 := h.o2
  o3 := h.o3
  l1 := Nat.lt_of_lt_of_le h.l1 hw.size
theorem DivRows.putW {B n L : Nat} {w w' : World} {bq br bw : Nat} {fq fr fw g : Nat → Nat} {m : Nat} (h : DivRows B n L w bq br bw fq fr fw) (hw : Wr bw 0 m w w') (hr : Row w' bw 0 (L + 1) (oct g)) : DivRows B n L w' bq br bw fq fr g where
  rq := h.rq.wr hw (.inl h.d2)
  qq := h.qq.wr hw h.l1
  rr := h.rr.wr hw (.inl h.d3)
  qr := h.qr.wr hw (h.rr.block_lt (by omega))
  rw := hr
  qw := h.qw.wr hw (h.rw.block_lt (by omega))
  d1 := h.d1
  d2 := h.d2
  d3 := h.d3
  o1 := h.o1
  o2 := h.o2
  o3 := h.o3
  l1 := Nat.lt_of_lt_of_le h.l1 hw.size
theorem DivRows.putQ {B n L : Nat} {w w' : World} {bq br bw : Nat} {fq fr fw g : Nat → Nat} {m : Nat} (h : DivRows B n L w bq br bw fq fr fw) (hw : Wr bq 0 m w w') (hr : Row w' bq 0 n (oct g)) : DivRows B n L w' bq br bw g fr fw where
  rq := hr
  qq := h.qq.wr hw h.l1
  rr := h.rr.wr hw (.inl h.d1.symm)
  qr := h.qr.wr hw (h.rr.block_lt (by omega))
  rw := h.rw.wr hw (.inl h.d2.symm)
  qw := h.qw.wr hw (h.rw.block_lt (by omega))
  d1 := h.d1
  d2 := h.d2
  d3 := h.d3
  o1 := h.o1
  o2 := h.o2
  o3 := h.o3
  l1 := Nat.lt_of_lt_of_le h.l1 hw.size

/-- 'clear' of bytes. -/
theorem clear_oct (ty : TypeId) (w : World) (b off n c : Nat) (g : Nat → Nat) (hn : 0 < n) (hd : Row w b off n (oct g)) (hf : Free w b off n) :
    ∃ w', (Builtin.clear_ #[22] ty #[.slice (some ⟨b, off, none⟩) n c]).run Taig.prog w = .ok (.tuple #[]) w' ∧ Wr b off (off + n) w w' ∧ Row w' b off n (oct fun _ => 0) := by
  obtain ⟨i, hi, hz, hs, hb⟩ := info_parts Taig.info5
  have hv : ∀ w, (zeroValue 5).run Taig.prog w = .ok (.int .u8 0) w := fun w => by simp [zeroValue, typeInfo, hi, hz]
  refine ⟨_, Lib.run_clear_slice w 22 5 ty (.int .u8 0) Taig.underlying22 hv rfl rfl b off n c hn (fun j hj => by rw [hd j hj]; rfl) hf, ?_, fun i hi => ?_⟩
  · have := wr_setCells b (List.replicate n (Value.int .u8 0)) off w
    simpa using this
  · have := World.cell?_setCells_in b (List.replicate n (Value.int .u8 0)) off w (fun j hj => by simp at hj; rw [hd j hj]; rfl) i (by simpa using hi)
    rw [this]; simp [oct]

/-! ### plain -/
theorem quart_step (A i : Nat) : A / 4 ^ i = 4 * (A / 4 ^ (i + 1)) + A / 4 ^ i % 4 := by
  rw [Nat.pow_succ, ← Nat.div_div_eq_div_mul]; omega
theorem quart_bits (A i : Nat) : A / 4 ^ i % 4 = 2 * (A / 2 ^ (2 * i + 1) % 2) + A / 2 ^ (2 * i) % 2 := by
  rw [Nat.pow_succ, ← Nat.div_div_eq_div_mul, Nat.pow_mul]
  generalize A / (2 ^ 2) ^ i = Y
  omega
/-- R is the root of the high bits of A from 2 l on, F what is left. -/
structure SqS (A l R F : Nat) : Prop where
  sum : R * R + F = A / 4 ^ l
  le : F ≤ 2 * R
theorem sq_put {A i R F G : Nat} (h : SqS A (i + 1) R F) (hG : G = 4 * F + A / 4 ^ i % 4) (h1 : 4 * R + 1 ≤ G) : SqS A i (2 * R + 1) (G - (4 * R + 1)) := by
  have e := quart_step A i
  have e2 := h.sum
  have e3 := h.le
  refine ⟨?_, by omega⟩
  have e4 : (2 * R + 1) * (2 * R + 1) = 4 * (R * R) + 4 * R + 1 := by
    rw [Nat.add_mul, Nat.mul_add, Nat.mul_one, Nat.one_mul, Nat.mul_mul_mul_comm]; omega
  rw [e4]; omega
theorem sq_leave {A i R F G : Nat} (h : SqS A (i + 1) R F) (hG : G = 4 * F + A / 4 ^ i % 4) (h1 : G < 4 * R + 1) : SqS A i (2 * R) G := by
  have e := quart_step A i
  have e2 := h.sum
  refine ⟨?_, by omega⟩
  rw [Nat.mul_mul_mul_comm]; omega
theorem sq_small {A l R F : Nat} (h : SqS A l R F) : R < 256 ^ (dlen A / 2 + 1) := by
  have h1 : R * R ≤ A := Nat.le_trans (by have := h.sum; omega) (Nat.div_le_self A (4 ^ l))
  refine sq_lt_of (Nat.lt_of_le_of_lt h1 ?_)
  rw [← Nat.pow_add]
  exact Nat.lt_of_lt_of_le (lt_pow_dlen A) (pow256_mono (by omega))
theorem sq_uniq {A S R S' R' : Nat} (h1 : S * S + R = A) (h2 : R ≤ 2 * S) (h3 : S' * S' + R' = A) (h4 : R' ≤ 2 * S') : S = S' ∧ R = R' := by
  have key : ∀ {S R S' R' : Nat}, S * S + R = A → R ≤ 2 * S → S' * S' + R' = A → S' ≤ S := fun {S R S' R'} a1 a2 a3 => by
    rcases Nat.lt_or_ge S S' with h | h
    · have := Nat.mul_le_mul (show S + 1 ≤ S' from h) (show S + 1 ≤ S' from h)
      rw [Nat.add_mul, Nat.mul_add, Nat.mul_one, Nat.one_mul] at this
      omega
    · exact h
  have e : S = S' := Nat.le_antisymm (key h3 h4 h1) (key h1 h2 h3)
  subst e
  exact ⟨rfl, by omega⟩
theorem val_even {f : Nat → Nat} {n R : Nat} (hn : 0 < n) (h : val f n = 2 * R) : f 0 % 2 = 0 := by
  obtain ⟨m, rfl⟩ : ∃ m, n = m + 1 := ⟨n - 1, by omega⟩
  rw [val_low] at h; omega
theorem val_put0 {f : Nat → Nat} {n R : Nat} (hn : 0 < n) (h : val f n = 2 * R) : val (upd f 0 (f 0 + 1)) n = 2 * R + 1 := by
  have h1 := val_upd f (f 0 + 1) hn
  rw [Nat.pow_zero, Nat.mul_one, Nat.mul_one] at h1
  omega
theorem or_one {x : Nat} (hx : x < 256) (h : x % 2 = 0) : bits .or .u8 (x : Int) 1 = ((x + 1 : Nat) : Int) := by
  have h1 := or_bit (d := x) (k := 0) (by simpa using h)
  have := u8_or_nat x 1 hx (by decide)
  rw [show (1 : Nat) = 2 ^ 0 from rfl, h1] at this
  simpa using this
/-- What the doublings give fits. -/
theorem sq_fits {A R F v M : Nat} (hR : R < M) (hF : F ≤ 2 * R) (hv : v ≤ 3) : 4 * F + v < 256 * (256 * M) ∧ 4 * R + 1 < 256 * (256 * M) ∧ 2 * R + 1 < 256 * M ∧ 2 * F + 1 < 256 * (256 * M) ∧ 2 * R < 256 * (256 * M) := by omega
end Go.Proofs.Ygctai
