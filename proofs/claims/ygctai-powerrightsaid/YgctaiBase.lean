/-
  MEMORY: rows of cells, byte slices as functions of the place, naturals in memory; what a call leaves as it was.
-/
import Derived.Test.YgctaiMath
import Derived.Test.YgctaiProg
import Derived.WalkKit
import Derived.WalkSpells
import Derived.WalkLawsBesides
import Derived.Deep.OwnRows
import Derived.Deep.LoopGhost
import Derived.Deep.DeepCutAuto
import Derived.Deep.QuietTactic
import Derived.BigQuiet
import Derived.RegionTactic
namespace Go.Proofs.Ygctai
open Go.RowKit

/-- The n cells from (b, off) on hold c 0, c 1, .. -/
def Row (w : World) (b off n : Nat) (c : Nat → Value) : Prop := ∀ i, i < n → w.cell? ⟨b, off + i, none⟩ = some (c i)
/-- They may be written. -/
structure Free (w : World) (b off n : Nat) : Prop where
  all : 0 < n → ∀ o, w.frozen? ⟨b, o, none⟩ = false
theorem Free.here {w : World} {b off n : Nat} (h : Free w b off n) (i : Nat) (hi : i < n) : w.frozen? ⟨b, off + i, none⟩ = false := h.all (by omega) _
instance {w : World} {b off n : Nat} : CoeFun (Free w b off n) (fun _ => ∀ i, i < n → w.frozen? ⟨b, off + i, none⟩ = false) := ⟨Free.here⟩
/-- Bytes as values. -/
def oct (f : Nat → Nat) : Nat → Value := fun i => .int .u8 (f i)
theorem oct_at (f : Nat → Nat) (i : Nat) : oct f i = .int .u8 (f i) := rfl
/-- Every digit is a byte. -/
def Byt (f : Nat → Nat) : Prop := ∀ i, f i < 256
theorem Byt.lt {f : Nat → Nat} (h : Byt f) {n : Nat} : ∀ i, i < n → f i < 256 := fun i _ => h i
theorem byt_dig (N : Nat) : Byt (dig N) := dig_lt N
theorem byt_zero : Byt (fun _ => 0) := fun _ => Nat.succ_pos 255
theorem Byt.upd {f : Nat → Nat} (h : Byt f) (i v : Nat) (hv : v < 256) : Byt (Ygctai.upd f i v) := fun j => by
  unfold Ygctai.upd; split
  · exact hv
  · exact h j

/-- A slice of bytes: n of them, f 0, f 1, ..; of an empty one nothing is said. -/
def Sl (w : World) (a : Option Addr) (n : Nat) (f : Nat → Nat) : Prop := 0 < n → ∃ b off, a = some ⟨b, off, none⟩ ∧ Row w b off n (oct f)

theorem Row.cell {w : World} {b off n : Nat} {c : Nat → Value} (h : Row w b off n c) {i : Nat} (hi : i < n) : w.cell? ⟨b, off + i, none⟩ = some (c i) := h i hi
theorem Row.block_lt {w : World} {b off n : Nat} {c : Nat → Value} (h : Row w b off n c) (hn : 0 < n) : b < w.heap.size := World.block_lt_of_cell? _ _ (h 0 hn)
theorem Row.sub {w : World} {b off n m : Nat} {c : Nat → Value} (h : Row w b off n c) (hm : m ≤ n) : Row w b off m c := fun i hi => h i (by omega)
theorem Row.shift {w : World} {b off n m k : Nat} {c : Nat → Value} (h : Row w b off n c) (hm : k + m ≤ n) : Row w b (off + k) m (fun i => c (k + i)) := fun i hi => by
  have := h (k + i) (by omega)
  rwa [← Nat.add_assoc] at this
theorem Row.congr {w : World} {b off n : Nat} {c d : Nat → Value} (h : Row w b off n c) (e : ∀ i, i < n → c i = d i) : Row w b off n d := fun i hi => by rw [h i hi, e i hi]
theorem Row.below {w w' : World} {B b off n : Nat} {c : Nat → Value} (h : Row w b off n c) (hb : Below B w w') (hB : b < B) : Row w' b off n c := fun i hi => by rw [hb.cell hB]; exact h i hi
theorem Row.keep {w w' : World} {b off n : Nat} {c : Nat → Value} (h : Row w b off n c) (hb : Below w.heap.size w w') : Row w' b off n c := fun i hi => by
  rw [hb.cell (h.block_lt (by omega))]; exact h i hi
theorem Free.sub {w : World} {b off n m : Nat} (h : Free w b off n) (hm : m ≤ n) : Free w b off m := ⟨fun hn => h.all (by omega)⟩
theorem Free.shift {w : World} {b off n m k : Nat} (h : Free w b off n) (hm : k + m ≤ n) : Free w b (off + k) m := ⟨fun hn => h.all (by omega)⟩
theorem Free.below {w w' : World} {B b off n : Nat} (h : Free w b off n) (hb : Below B w w') (hB : b < B) : Free w' b off n := ⟨fun hn o => by rw [hb.frozen hB]; exact h.all hn o⟩
theorem Free.setCell {w : World} {b off n : Nat} (h : Free w b off n) (a : Addr) (v : Value) : Free (w.setCell a v) b off n := ⟨fun hn o => by rw [World.frozen?_setCell]; exact h.all hn o⟩
theorem Row.setCell {w : World} {b off n : Nat} {c : Nat → Value} (h : Row w b off n c) {i : Nat} (hi : i < n) (v : Value) : Row (w.setCell ⟨b, off + i, none⟩ v) b off n (upd c i v) := fun j hj => by
  by_cases e : j = i
  · subst e; rw [upd_at]; exact World.cell?_setCell_same _ _ _ (h j hj)
  · rw [upd_ne c v e, World.cell?_setCell_other _ _ _ _ (by simp; try omega)]; exact h j hj
theorem Row.setOther {w : World} {b off n : Nat} {c : Nat → Value} (h : Row w b off n c) {b' o' : Nat} (hb : b' ≠ b ∨ o' < off ∨ off + n ≤ o') (v : Value) : Row (w.setCell ⟨b', o', none⟩ v) b off n c := fun j hj => by
  rw [World.cell?_setCell_other _ _ _ _ (by simp; omega)]; exact h j hj
theorem upd_oct (f : Nat → Nat) (i v : Nat) : upd (oct f) i (.int .u8 v) = oct (upd f i v) := by
  funext j; unfold upd oct; dsimp only; split <;> rfl
theorem Row.put {w : World} {b off n : Nat} {f : Nat → Nat} (h : Row w b off n (oct f)) (i v : Nat) {o : Nat} {z : Int} (hi : i < n) (ho : o = off + i) (hz : z = v) : Row (w.setCell ⟨b, o, none⟩ (.int .u8 z)) b off n (oct (upd f i v)) := by
  subst ho; subst hz; rw [← upd_oct]; exact h.setCell hi _
theorem int_eq {k : IntKind} {a b : Int} (h : a = b) : Value.int k a = .int k b := by rw [h]
theorem Row.drew {w : World} {b off n : Nat} {c : Nat → Value} (h : Row w b off n c) : Row w.drew b off n c := h
theorem Free.drew {w : World} {b off n : Nat} (h : Free w b off n) : Free w.drew b off n := ⟨h.all⟩

/-! ### new rows -/
/-- A row of n cells z. -/
def made (z : Value) (n e : Nat) : Obj := .cells (madeCells #[z] n) e
theorem row_made (w : World) (z : Value) (n e : Nat) : Row (w.alloc (made z n e)) w.heap.size 0 n (fun _ => z) := fun i hi => by
  rw [made, World.cell?_alloc_at _ _ _ _ rfl]
  simp [madeCells, hi, Nat.mod_one]
theorem free_made (w : World) (z : Value) (n e : Nat) : Free (w.alloc (made z n e)) w.heap.size 0 n := ⟨fun _ o => by
  rw [made, World.frozen?_alloc_at _ _ _ _ rfl]⟩
theorem row_new (w : World) (cs : Array Value) (e n : Nat) (c : Nat → Value) (h : ∀ i, i < n → cs[i]? = some (c i)) : Row (w.alloc (.cells cs e)) w.heap.size 0 n c := fun i hi => by
  rw [World.cell?_alloc_at _ _ _ _ rfl, Nat.zero_add]; exact h i hi
theorem free_new (w : World) (cs : Array Value) (e n : Nat) : Free (w.alloc (.cells cs e)) w.heap.size 0 n := ⟨fun _ o => by
  rw [World.frozen?_alloc_at _ _ _ _ rfl]⟩
theorem Row.alloc {w : World} {b off n : Nat} {c : Nat → Value} (h : Row w b off n c) (o : Obj) : Row (w.alloc o) b off n c := fun i hi => by
  rw [World.cell?_alloc_lt _ _ _ (h.block_lt (by omega))]; exact h i hi
theorem below_alloc (w : World) (o : Obj) : Below w.heap.size w (w.alloc o) := (Below.refl _ _).alloc (Nat.le_refl _) o

theorem Taig.info5 : (Taig.prog.info? 5).map (fun i => (i.zero, i.size, i.bytes)) = some (some (.int .u8 0), 1, 1) := by kernel_rfl
theorem Taig.own : ownKnob Taig.prog.godebug = none := by kernel_rfl

/-- 'make(nat.Nat, n)'. -/
theorem make23 (n : Nat) (hn : n ≤ 281474976710656) (w : World) : (Instr.makeSlice 23 (.int .i64 (n : Int)) (.int .i64 (n : Int))).run Taig.prog w = .ok (.slice (some ⟨w.heap.size, 0, none⟩) n n) (w.alloc (made (.int .u8 0) n 5)) :=
  run_make_row' 23 5 (.int .u8 0) 1 Taig.underlying23 Taig.info5 rfl .i64 .i64 n (by omega) (by omega) w
/-- 'make([]uint8, n)'. -/
theorem make22 (n : Nat) (hn : n ≤ 281474976710656) (w : World) : (Instr.makeSlice 22 (.int .i64 (n : Int)) (.int .i64 (n : Int))).run Taig.prog w = .ok (.slice (some ⟨w.heap.size, 0, none⟩) n n) (w.alloc (made (.int .u8 0) n 5)) :=
  run_make_row' 22 5 (.int .u8 0) 1 Taig.underlying22 Taig.info5 rfl .i64 .i64 n (by omega) (by omega) w

/-! ### slices -/
theorem Sl.keep {w w' : World} {a : Option Addr} {n : Nat} {f : Nat → Nat} (h : Sl w a n f) (hb : Below w.heap.size w w') : Sl w' a n f := fun hn => by
  obtain ⟨b, off, e, r⟩ := h hn
  exact ⟨b, off, e, r.keep hb⟩
theorem Sl.drew {w : World} {a : Option Addr} {n : Nat} {f : Nat → Nat} (h : Sl w a n f) : Sl w.drew a n f := h
theorem Sl.congr {w : World} {a : Option Addr} {n : Nat} {f g : Nat → Nat} (h : Sl w a n f) (e : ∀ i, i < n → f i = g i) : Sl w a n g := fun hn => by
  obtain ⟨b, off, ea, r⟩ := h hn
  exact ⟨b, off, ea, r.congr fun i hi => by rw [oct_at, oct_at, e i hi]⟩
theorem Sl.sub {w : World} {a : Option Addr} {n m : Nat} {f : Nat → Nat} (h : Sl w a n f) (hm : m ≤ n) : Sl w a m f := fun hn => by
  obtain ⟨b, off, ea, r⟩ := h (by omega)
  exact ⟨b, off, ea, r.sub hm⟩

/-- The address of a natural: nil for 0. -/
def nz (N : Nat) (a : Option Addr) : Option Addr := if N = 0 then none else a
theorem nz_zero (a : Option Addr) : nz 0 a = none := rfl
theorem nz_pos {N : Nat} (h : 0 < N) (a : Option Addr) : nz N a = a := if_neg (by omega)

/-- What is left when the zeros at the top go. -/
theorem Sl.trim {w : World} {a : Option Addr} {n : Nat} {f : Nat → Nat} (h : Sl w a n f) (hf : Byt f) : Sl w (nz (val f n) a) (dlen (val f n)) (dig (val f n)) := fun hn => by
  have hV : 0 < val f n := by
    rcases Nat.eq_zero_or_pos (val f n) with e | e
    · rw [e] at hn; simp [dlen_zero] at hn
    · exact e
  have hle : dlen (val f n) ≤ n := (dlen_le_iff _ _).2 (val_lt n hf.lt)
  obtain ⟨b, off, e, r⟩ := h (by omega)
  exact ⟨b, off, by rw [nz_pos hV, e], (r.sub hle).congr fun i hi => by rw [oct_at, oct_at, dig_val hf.lt (by omega)]⟩

/-- A natural N in memory, the digits in block B or later and free to be written; nil for 0. -/
def Nt (w : World) (B : Nat) (a : Option Addr) (N : Nat) : Prop := (N = 0 → a = none) ∧ (0 < N → ∃ b off, a = some ⟨b, off, none⟩ ∧ B ≤ b ∧ Row w b off (dlen N) (oct (dig N)) ∧ Free w b off (dlen N))
theorem Nt.sl {w : World} {B : Nat} {a : Option Addr} {N : Nat} (h : Nt w B a N) : Sl w a (dlen N) (dig N) := fun hn => by
  have hN : 0 < N := by
    rcases Nat.eq_zero_or_pos N with e | e
    · rw [e] at hn; simp [dlen_zero] at hn
    · exact e
  obtain ⟨b, off, e, _, r, _⟩ := h.2 hN
  exact ⟨b, off, e, r⟩
theorem Nt.keep {w w' : World} {B : Nat} {a : Option Addr} {N : Nat} (h : Nt w B a N) (hb : Below w.heap.size w w') : Nt w' B a N := ⟨h.1, fun hN => by
  obtain ⟨b, off, e, hB, r, fr⟩ := h.2 hN
  have hd := dlen_pos hN
  exact ⟨b, off, e, hB, r.keep hb, fr.below hb (r.block_lt hd)⟩⟩
theorem Nt.mono {w : World} {B B' : Nat} {a : Option Addr} {N : Nat} (h : Nt w B a N) (hB : B' ≤ B) : Nt w B' a N := ⟨h.1, fun hN => by
  obtain ⟨b, off, e, h1, r, fr⟩ := h.2 hN
  exact ⟨b, off, e, by omega, r, fr⟩⟩
theorem Nt.nil (w : World) (B : Nat) : Nt w B none 0 := ⟨fun _ => rfl, fun h => absurd h (by decide)⟩
theorem Nt.lt {w : World} {B : Nat} {a : Option Addr} {N T o : Nat} (h : Nt w B a N) (e : a = some ⟨T, o, none⟩) : T < w.heap.size := by
  rcases Nat.eq_zero_or_pos N with hN | hN
  · rw [h.1 hN] at e; cases e
  · obtain ⟨b, off, e2, _, r, _⟩ := h.2 hN
    rw [e] at e2
    injection e2 with e3
    injection e3 with e4
    rw [e4]; exact r.block_lt (dlen_pos hN)
theorem Nt.isNone {w : World} {B : Nat} {a : Option Addr} {N : Nat} (h : Nt w B a N) : a.isNone = decide (N = 0) := by
  rcases Nat.eq_zero_or_pos N with hN | hN
  · rw [h.1 hN]; simp [hN]
  · obtain ⟨b, off, e2, _⟩ := h.2 hN
    rw [e2]; simp; omega
theorem Nt.drew {w : World} {B : Nat} {a : Option Addr} {N : Nat} (h : Nt w B a N) : Nt w.drew B a N := ⟨h.1, fun hN => by
  obtain ⟨b, off, e, hB, r, f⟩ := h.2 hN
  exact ⟨b, off, e, hB, r, f.drew⟩⟩

/-- A row of one's own, trimmed. -/
theorem nt_of_row {w : World} {B b off n : Nat} {f : Nat → Nat} (hf : Byt f) (hB : B ≤ b) (r : Row w b off n (oct f)) (fr : Free w b off n) : Nt w B (nz (val f n) (some ⟨b, off, none⟩)) (val f n) := by
  have hle : dlen (val f n) ≤ n := (dlen_le_iff _ _).2 (val_lt n hf.lt)
  refine ⟨fun e => by rw [e, nz_zero], fun hN => ⟨b, off, nz_pos hN _, hB, ?_, fr.sub hle⟩⟩
  exact (r.sub hle).congr fun i hi => by rw [oct_at, oct_at, dig_val hf.lt (by omega)]

theorem hide {p : Prop} (h : p) : Hid p := h
theorem unhide {p : Prop} (h : Hid p) : p := h

theorem dlen_val_le {f : Nat → Nat} (hf : Byt f) (n : Nat) : dlen (val f n) ≤ n := (dlen_le_iff _ _).2 (val_lt n hf.lt)

end Go.Proofs.Ygctai
