/-
  MEMORY, FURTHER: what a call that writes into one row leaves as it was; copy.
-/
import Derived.Test.YgctaiBase
import Derived.Laws.IdiomCopy
import Derived.Lib.SliceRun
namespace Go.Proofs.Ygctai
open Go.RowKit

/-- Of what was there only cells lo to hi of block b may have turned. -/
structure Wr (b lo hi : Nat) (w w' : World) : Prop where
  os : w'.os = w.os
  tape : w'.tape = w.tape
  output : w'.output = w.output
  size : w.heap.size ≤ w'.heap.size
  block : ∀ k, k < w.heap.size → k ≠ b → w'.heap[k]? = w.heap[k]?
  cell : ∀ o, (o < lo ∨ hi ≤ o) → w'.cell? ⟨b, o, none⟩ = w.cell? ⟨b, o, none⟩
  frozen : ∀ o, w'.frozen? ⟨b, o, none⟩ = w.frozen? ⟨b, o, none⟩

theorem Wr.refl (b lo hi : Nat) (w : World) : Wr b lo hi w w := ⟨rfl, rfl, rfl, Nat.le_refl _, fun _ _ _ => rfl, fun _ _ => rfl, fun _ => rfl⟩
theorem Wr.trans {b lo hi : Nat} {w1 w2 w3 : World} (h : Wr b lo hi w1 w2) (k : Wr b lo hi w2 w3) : Wr b lo hi w1 w3 :=
  ⟨k.os.trans h.os, k.tape.trans h.tape, k.output.trans h.output, Nat.le_trans h.size k.size, fun i hi' hb => (k.block i (Nat.lt_of_lt_of_le hi' h.size) hb).trans (h.block i hi' hb),
   fun o ho => (k.cell o ho).trans (h.cell o ho), fun o => (k.frozen o).trans (h.frozen o)⟩
theorem Wr.mono {b lo hi lo' hi' : Nat} {w w' : World} (h : Wr b lo hi w w') (h1 : lo' ≤ lo) (h2 : hi ≤ hi') : Wr b lo' hi' w w' :=
  ⟨h.os, h.tape, h.output, h.size, h.block, fun o ho => h.cell o (by omega), h.frozen⟩
theorem Wr.drew {b lo hi : Nat} {w w' : World} (h : Wr b lo hi w w') : Wr b lo hi w w'.drew := ⟨h.os, h.tape, h.output, h.size, h.block, h.cell, h.frozen⟩
theorem Wr.setCell {b lo hi : Nat} {w w' : World} (h : Wr b lo hi w w') {o : Nat} (h1 : lo ≤ o) (h2 : o < hi) (v : Value) : Wr b lo hi w (w'.setCell ⟨b, o, none⟩ v) :=
  h.trans ⟨rfl, rfl, rfl, by simp, fun k _ hk => Below.heap_setCell _ _ _ _ hk, fun p hp => World.cell?_setCell_other _ _ _ _ (fun e => by injection e; omega), fun p => by simp⟩
theorem Wr.of_below {b lo hi : Nat} {w w' : World} (h : Below w.heap.size w w') (hb : b < w.heap.size) : Wr b lo hi w w' :=
  ⟨h.os, h.tape, h.output, h.size, fun k hk _ => h.block k hk, fun _ _ => h.cell hb, fun _ => h.frozen hb⟩
theorem Wr.below {B b lo hi : Nat} {a w w' : World} (h : Wr b lo hi w w') (ha : Below B a w) (hB : B ≤ b) (hs : B ≤ w.heap.size) : Below B a w' :=
  ha.trans ⟨h.os, h.tape, h.output, h.size, fun k hk => h.block k (by omega) (by omega)⟩
theorem Row.wr {w w' : World} {b off n b' lo hi : Nat} {c : Nat → Value} (h : Row w b off n c) (hw : Wr b' lo hi w w') (hd : b ≠ b' ∨ off + n ≤ lo ∨ hi ≤ off) : Row w' b off n c := fun i hi' => by
  have hl := h.block_lt (by omega)
  by_cases e : b = b'
  · subst e; rw [hw.cell _ (by omega)]; exact h i hi'
  · rw [World.cell?_of_block (w := w) (hw.block b hl e)]; exact h i hi'
theorem Free.wr {w w' : World} {b off n b' lo hi : Nat} (h : Free w b off n) (hw : Wr b' lo hi w w') (hl : b < w.heap.size) : Free w' b off n := ⟨fun hn o => by
  by_cases e : b = b'
  · subst e; rw [hw.frozen]; exact h.all hn o
  · rw [World.frozen?_of_block (w := w) (hw.block b hl e)]; exact h.all hn o⟩
theorem Sl.wr {w w' : World} {a : Option Addr} {n b lo hi : Nat} {f : Nat → Nat} (h : Sl w a n f) (hw : Wr b lo hi w w') (hd : ∀ b' off, a = some ⟨b', off, none⟩ → b' ≠ b ∨ off + n ≤ lo ∨ hi ≤ off) : Sl w' a n f := fun hn => by
  obtain ⟨b', off, e, r⟩ := h hn
  exact ⟨b', off, e, r.wr hw (hd b' off e)⟩

theorem Row.drewN {w : World} {b off n : Nat} {c : Nat → Value} (h : Row w b off n c) (k : Nat) : Row (w.drewN k) b off n c := h
theorem Free.drewN {w : World} {b off n : Nat} (h : Free w b off n) (k : Nat) : Free (w.drewN k) b off n := ⟨h.all⟩
theorem belowN {B : Nat} {a w : World} (h : Below B a w) (n : Nat) : Below B a (w.drewN n) := ⟨h.os, h.tape, h.output, h.size, h.block⟩

theorem wr_setCells (b : Nat) : ∀ (vs : List Value) (o : Nat) (w : World), Wr b o (o + vs.length) w (w.setCells b o vs)
  | [], o, w => Wr.refl _ _ _ _
  | v :: r, o, w => by
    have h1 : Wr b o (o + (v :: r).length) w (w.setCell ⟨b, o, none⟩ v) := (Wr.refl _ _ _ _).setCell (Nat.le_refl _) (by simp) v
    exact h1.trans ((wr_setCells b r (o + 1) _).mono (by omega) (by simp; omega))

/-- 'copy(dst, src)', elements of one cell. -/
theorem copy_run {P : Program} (dT sT ty e : TypeId) (hu : P.underlying dT = some (.slice e)) (hsz : (P.info? e).map (·.size) = some 1) (w : World) (b off dLen dCap : Nat) (sp : Option Addr) (sLen sCap : Nat) (c d : Nat → Value)
    (hd : Row w b off dLen d) (hfr : Free w b off dLen) (hsrc : 0 < sLen → ∃ sb so, sp = some ⟨sb, so, none⟩ ∧ Row w sb so sLen c) (h1 : ∀ i, (c i).oneCell' = true) :
    ∃ w', (Builtin.copy_ #[dT, sT] ty #[.slice (some ⟨b, off, none⟩) dLen dCap, .slice sp sLen sCap]).run P w = .ok (goInt (min sLen dLen : Nat)) w' ∧ Wr b off (off + min sLen dLen) w w' ∧
      Row w' b off dLen (fun i => if i < min sLen dLen then c i else d i) := by
  by_cases h0 : min sLen dLen = 0
  · refine ⟨w, ?_, Wr.refl _ _ _ _, hd.congr fun i _ => by rw [if_neg (by omega)]⟩
    rw [h0]
    exact run_copy_none w dT sT ty e _ _ _ _ _ _ hu hsz h0
  · obtain ⟨sb, so, rfl, r⟩ := hsrc (by omega)
    have hlen : ((List.range (min sLen dLen)).map c).length = Nat.min sLen dLen := by simp
    refine ⟨w.setCells b off ((List.range (min sLen dLen)).map c), ?_, ?_, ?_⟩
    · have := run_copy_cells (P := P) w dT sT ty e b off dLen dCap ⟨sb, so, none⟩ sLen sCap ((List.range (min sLen dLen)).map c) hu hsz hlen
        (fun j v hj => by
          simp only [List.getElem?_map, Option.map_eq_some_iff] at hj
          obtain ⟨j', hj1, rfl⟩ := hj
          have hj2 := List.getElem?_eq_some_iff.1 hj1
          obtain ⟨hj3, hj4⟩ := hj2
          simp at hj3 hj4
          subst hj4
          have := r j (by omega)
          rw [show (⟨sb, so, none⟩ : Addr).add j = ⟨sb, so + j, none⟩ from by unfold Addr.add; split <;> simp_all]
          exact this)
        (fun j hj => by simp at hj; rw [hd j (by omega)]; rfl) (fun j hj => by simp at hj; exact hfr j (by omega)) (fun v hv => by simp at hv; obtain ⟨i, _, rfl⟩ := hv; exact h1 i)
      rw [this]; simp
    · have := wr_setCells b ((List.range (min sLen dLen)).map c) off w
      simpa using this
    · intro i hi
      by_cases hi2 : i < min sLen dLen
      · have := World.cell?_setCells_in b ((List.range (min sLen dLen)).map c) off w (fun j hj => by simp at hj; rw [hd j (by omega)]; rfl) i (by simpa using hi2)
        rw [this]; simp [hi2]
      · rw [World.cell?_setCells_out b _ off w _ (fun _ _ => Or.inr (by simp; omega)), hd i hi]; simp [hi2]

theorem oct_one (f : Nat → Nat) (i : Nat) : (oct f i).oneCell' = true := rfl

theorem Taig.size5 : (Taig.prog.info? 5).map (·.size) = some 1 := by kernel_rfl

/-- 'copy' of bytes. -/
theorem copy_oct (dT sT ty : TypeId) (hu : Taig.prog.underlying dT = some (.slice 5)) (w : World) (b off dLen dCap : Nat) (sp : Option Addr) (sLen sCap : Nat) (f g : Nat → Nat)
    (hd : Row w b off dLen (oct g)) (hfr : Free w b off dLen) (hsrc : Sl w sp sLen f) :
    ∃ w', (Builtin.copy_ #[dT, sT] ty #[.slice (some ⟨b, off, none⟩) dLen dCap, .slice sp sLen sCap]).run Taig.prog w = .ok (.int .i64 (min sLen dLen : Nat)) w' ∧ Wr b off (off + min sLen dLen) w w' ∧
      Row w' b off dLen (oct fun i => if i < min sLen dLen then f i else g i) := by
  obtain ⟨w', h1, h2, h3⟩ := copy_run dT sT ty 5 hu Taig.size5 w b off dLen dCap sp sLen sCap (oct f) (oct g) hd hfr hsrc (oct_one f)
  exact ⟨w', h1, h2, h3.congr fun i _ => by unfold oct; dsimp only; split <;> rfl⟩

/-- 'a == nil'. -/
theorem eqNil23 (a : Option Addr) (n c : Nat) (w : World) : (binOp .eql 23 (.slice a n c) (.slice none 0 0)).run Taig.prog w = .ok (.bool a.isNone) w :=
  Lib.run_eql_slice_nil w 23 5 a n c 0 0 Taig.underlying23
theorem eqNil22 (a : Option Addr) (n c : Nat) (w : World) : (binOp .eql 22 (.slice a n c) (.slice none 0 0)).run Taig.prog w = .ok (.bool a.isNone) w :=
  Lib.run_eql_slice_nil w 22 5 a n c 0 0 Taig.underlying22

theorem nz_isNone {N : Nat} {b off : Nat} : (nz N (some ⟨b, off, none⟩)).isNone = decide (N = 0) := by
  unfold nz; split <;> simp_all

end Go.Proofs.Ygctai
