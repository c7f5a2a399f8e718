/-
  law: times, multipliedRow, rowOfTwo.
-/
import Derived.Test.YgctaiQI
import Derived.Test.YgctaiMul
import Derived.Deep.RegionHeld3
namespace Go.Proofs.Ygctai
open Go.RowKit
set_option linter.unusedVariables false
attribute [local go_sem ↓] Go.wp_at_zero Go.wp_at_succ

set_option maxRecDepth 100000 in
set_option maxHeartbeats 1000000 in
theorem times_school (a b : Option Addr) (M N : Nat) (w : World) (ha : Nt w 0 a M) (hb : Nt w 0 b N) (l1 : dlen M ≤ 512) (l2 : dlen N ≤ 512) :
    Calls Taig.prog 137 #[.int .u8 0, .slice a (dlen M) (dlen M), .slice b (dlen N) (dlen N)] w fun e w' => ∃ d, e = .returned (.tuple #[.slice d (dlen (M * N)) (dlen (M * N)), .bool true]) ∧ Nt w' w.heap.size d (M * N) ∧ Below w.heap.size w w' := by
  have K := mul_any a b (dlen M) (dlen M) (dlen N) (dlen N) (dig M) (dig N) w ha.sl hb.sl (byt_dig M) (byt_dig N) (Nat.le_refl _) (Nat.le_refl _) (by omega) (by omega) (by omega) (by omega)
  rw [val_dig_dlen, val_dig_dlen] at K
  have HK := hide K
  clear K ha hb
  go_enter Taig.func137, Taig.ntmps137
  go_wp2_with fail
  refine (unhide HK).mono ?_
  rintro e w1 ⟨d, rfl, hd, hb⟩
  have HD := hide hd
  clear hd
  go_wp2
  go_ret2
  exact ⟨_, rfl, unhide HD, hb⟩

theorem Taig.size102 : (Taig.prog.info? 102).map (·.size) = some 2 := by kernel_rfl
/-- The two cells of a state. -/
def st2 (s o : Value) : Nat → Value | 0 => s | _ => o
theorem st2_new (w : World) (s o : Value) : Row (w.alloc (.cells #[s, o] 102)) w.heap.size 0 2 (st2 s o) := row_new w _ 102 2 _ (fun i hi => by
  match i, hi with
  | 0, _ => rfl
  | 1, _ => rfl)
theorem st2_range {w : World} {g : Nat} {s o : Value} (h : Row w g 0 2 (st2 s o)) : w.rangeAt g 0 [s, o] := range_row h _ (fun j v hj => by
  match j, hj with
  | 0, hj => injection hj with hj; exact ⟨by decide, by rw [← hj]; rfl⟩
  | 1, hj => injection hj with hj; exact ⟨by decide, by rw [← hj]; rfl⟩)

/-- A state of one's own in block rb, one of its slices new in block nb. -/
def Mk (w2 wc : World) (rb nb m : Nat) (v o : Value) (c : Nat → Value) : Prop :=
  w2.heap.size ≤ rb ∧ w2.heap.size ≤ nb ∧ Row wc rb 0 2 (st2 v o) ∧ Row wc nb 0 m c ∧ Below w2.heap.size w2 wc
theorem mkA {w2 w4 : World} {nb m : Nat} {c : Nat → Value} (v o : Value) (h1 : w2.heap.size ≤ nb) (hr : Row w4 nb 0 m c) (hb : Below w2.heap.size w2 w4) : Mk w2 (w4.alloc (.cells #[v, o] 102)) w4.heap.size nb m v o c :=
  ⟨hb.size, h1, st2_new _ _ _, hr.alloc _, hb.alloc hb.size _⟩
theorem mkB {w2 w4 : World} {nb m : Nat} {c : Nat → Value} (v o : Value) (h1 : w2.heap.size + 1 = nb) (hr : Row w4 nb 0 m c) (hb : Below w2.heap.size w2 w4) (t0 : w4.cell? ⟨w2.heap.size, 0, none⟩ = some (.slice none 0 0)) (t1 : w4.cell? ⟨w2.heap.size, 1, none⟩ = some (.slice none 0 0)) :
    Mk w2 ((w4.setCell ⟨w2.heap.size, 0, none⟩ v).setCell ⟨w2.heap.size, 1, none⟩ o) w2.heap.size nb m v o c := by
  have r : Row w4 w2.heap.size 0 2 (fun _ => .slice none 0 0) := fun i hi => by
    match i, hi with
    | 0, _ => exact t0
    | 1, _ => exact t1
  refine ⟨Nat.le_refl _, by omega, ?_, (hr.setOther (.inl (by omega)) _).setOther (.inl (by omega)) _, (hb.setCell (Nat.le_refl _) _).setCell (Nat.le_refl _) _⟩
  refine ((r.setCell (i := 0) (by decide) v).setCell (i := 1) (by decide) o).congr (fun i hi => ?_)
  match i, hi with
  | 0, _ => rfl
  | 1, _ => rfl
/-- A new stack: m entries of the old one and d. -/
structure Nw (w w' : World) (nb m : Nat) (S : Nat → Nat) (ad : Nat → Option Addr) (d : Option Addr) (N : Nat) : Prop where
  lo : w.heap.size ≤ nb
  row : Row w' nb 0 (m + 1) (fun i => .slice (upd ad m d i) (dlen (upd S m N i)) (dlen (upd S m N i)))
  nt : Nt w' w.heap.size d N
  b : Below w.heap.size w w'
/-- A new list of k times -2. -/
structure No (w w' : World) (ob k : Nat) : Prop where
  lo : w.heap.size ≤ ob
  row : Row w' ob 0 k (fun _ => .int .i8 (-2))
  b : Below w.heap.size w w'
theorem Nw.pcx {w w' : World} {nb m n : Nat} {S : Nat → Nat} {ad : Nat → Option Addr} {d sa : Option Addr} {N : Nat} (h : Nw w w' nb m S ad d N) (hp : Pcx w 0 sa n S ad) (hm : m ≤ n) : Pcx w' 0 (some ⟨nb, 0, none⟩) (m + 1) (upd S m N) (upd ad m d) :=
  ⟨fun _ => ⟨nb, rfl, Nat.zero_le _, h.row⟩, fun i hi => by
    by_cases e : i = m
    · subst e
      rw [upd_at, upd_at]
      exact h.nt.mono (Nat.zero_le _)
    · rw [upd_ne _ _ e, upd_ne _ _ e]
      exact (hp.ent i (by omega)).keep h.b⟩
theorem No.oup {w w' : World} {ob k : Nat} (h : No w w' ob k) : Oup w' 0 (some ⟨ob, 0, none⟩) k := fun _ => ⟨ob, rfl, Nat.zero_le _, h.row⟩
/-- Two cells of block R are written. -/
theorem Nw.put {w w1 w' : World} {R nb m : Nat} {S : Nat → Nat} {ad : Nat → Option Addr} {d : Option Addr} {N : Nat} (h : Nw w1 w' nb m S ad d N) (hb : Below w.heap.size w w1) (hR : w.heap.size ≤ R) (hR2 : R < w1.heap.size) (u v : Value) : Nw w ((w'.setCell ⟨R, 0, none⟩ u).setCell ⟨R, 1, none⟩ v) nb m S ad d N := by
  have hs := hb.size
  have hl := h.lo
  have hdA : Apt (some ⟨R, 0, none⟩) d := (lo_some hR2).apt h.nt.hi
  exact ⟨by omega, (h.row.setOther (.inl (by omega)) _).setOther (.inl (by omega)) _, ((h.nt.grew' (grew_set _ _ _ _) hdA).grew' (grew_set _ _ _ _) hdA).mono hs, ((hb.trans (h.b.mono hs)).setCell hR _).setCell hR _⟩
theorem No.put {w w1 w' : World} {R ob k : Nat} (h : No w1 w' ob k) (hb : Below w.heap.size w w1) (hR : w.heap.size ≤ R) (hR2 : R < w1.heap.size) (u v : Value) : No w ((w'.setCell ⟨R, 0, none⟩ u).setCell ⟨R, 1, none⟩ v) ob k := by
  have hs := hb.size
  have hl := h.lo
  exact ⟨by omega, (h.row.setOther (.inl (by omega)) _).setOther (.inl (by omega)) _, ((hb.trans (h.b.mono hs)).setCell hR _).setCell hR _⟩
theorem range_put {w : World} {R : Nat} {c : Nat → Value} (h : Row w R 0 2 c) (u v : Value) : ((w.setCell ⟨R, 0, none⟩ u).setCell ⟨R, 1, none⟩ v).rangeAt R 0 [u, v] := by
  refine st2_range (((h.setCell (i := 0) (by decide) u).setCell (i := 1) (by decide) v).congr (fun i hi => ?_))
  match i, hi with
  | 0, _ => rfl
  | 1, _ => rfl
theorem Mk.nw {w2 wc : World} {rb nb m : Nat} {v o : Value} {S : Nat → Nat} {ad : Nat → Option Addr} {d : Option Addr} {N H : Nat} (h : Mk w2 wc rb nb (m + 1) v o (fun i => .slice (upd ad m d i) (dlen (upd S m N i)) (dlen (upd S m N i)))) (hH : H ≤ w2.heap.size) (hd : Nt w2 H d N) (u1 u2 : Value) {w : World} {R : Nat} (hb : Below w.heap.size w w2) (hR : w.heap.size ≤ R) (hRH : R < H) :
    Nw w ((wc.setCell ⟨R, 0, none⟩ u1).setCell ⟨R, 1, none⟩ u2) nb m S ad d N := by
  obtain ⟨h1, h2, h3, h4, h5⟩ := h
  have hdA : Apt (some ⟨R, 0, none⟩) d := (lo_some hRH).apt hd.hi
  exact ⟨by omega, (h4.setOther (.inl (by omega)) _).setOther (.inl (by omega)) _, (((hd.keep h5).grew' (grew_set _ _ _ _) hdA).grew' (grew_set _ _ _ _) hdA).mono (by omega), ((hb.trans (h5.mono (by omega))).setCell hR _).setCell hR _⟩
theorem Mk.no {w2 wc : World} {rb nb k : Nat} {v o : Value} (h : Mk w2 wc rb nb k v o (fun _ => .int .i8 (-2))) : No w2 wc nb k := ⟨h.2.1, h.2.2.2.1, h.2.2.2.2⟩

set_option maxRecDepth 100000 in
set_option maxHeartbeats 1000000 in
theorem multipliedRow_any (sa so : Option Addr) (n k count : Nat) (S : Nat → Nat) (ad : Nat → Option Addr) (a b : Option Addr) (M N : Nat) (w : World) (hp : Pcx w 0 sa n S ad) (hn : n ≤ 16) (hc : count ≤ n) (ha : Nt w 0 a M) (hb : Nt w 0 b N) (l1 : dlen M ≤ 512) (l2 : dlen N ≤ 512) :
    Calls Taig.prog 112 #[.int .u8 0, .agg #[.slice sa n n, .slice so k k], .int .i64 (count : Int), .slice a (dlen M) (dlen M), .slice b (dlen N) (dlen N)] w fun e w' => ∃ nb d, e = .returned (.agg #[.slice (some ⟨nb, 0, none⟩) (n - count + 1) (n - count + 1), .slice so k k]) ∧ Nw w w' nb (n - count) S ad d (M * N) := by
  have b0 := below_alloc w (.cells #[.slice sa n n, .slice so k k] 102)
  have s0 : (w.alloc (.cells #[.slice sa n n, .slice so k k] 102)).heap.size = w.heap.size + 1 := by simp
  have r0 := st2_new w (.slice sa n n) (.slice so k k)
  have b1 := below_alloc (w.alloc (.cells #[.slice sa n n, .slice so k k] 102)) (.cells #[.slice none 0 0, .slice none 0 0] 102)
  have r1 := st2_new (w.alloc (.cells #[.slice sa n n, .slice so k k] 102)) (.slice none 0 0) (.slice none 0 0)
  have f1 := free_new (w.alloc (.cells #[.slice sa n n, .slice so k k] 102)) #[.slice none 0 0, .slice none 0 0] 102 2
  rw [s0] at b1 r1 f1
  have r0' := r0.alloc (.cells #[.slice none 0 0, .slice none 0 0] 102)
  have s1 : ((w.alloc (.cells #[.slice sa n n, .slice so k k] 102)).alloc (.cells #[.slice none 0 0, .slice none 0 0] 102)).heap.size = w.heap.size + 2 := by simp
  have bb : Below w.heap.size w ((w.alloc (.cells #[.slice sa n n, .slice so k k] 102)).alloc (.cells #[.slice none 0 0, .slice none 0 0] 102)) := b0.trans (b1.mono (by omega))
  have KT := hide (times_school a b M N _ (ha.keep bb) (hb.keep bb) l1 l2)
  have HP := hide hp
  clear ha hb b0 b1 r0 hp
  go_enter Taig.func112, Taig.ntmps112
  go_wp2_with fail
  generalize ((w.alloc (.cells #[.slice sa n n, .slice so k k] 102)).alloc (.cells #[.slice none 0 0, .slice none 0 0] 102)) = w1 at *
  refine (unhide KT).mono ?_
  rintro e w2 ⟨d, rfl, hd, hb2⟩
  have R0 := hide (r0'.keep hb2)
  have R1 := hide (r1.keep hb2)
  have F1 := hide (f1.below hb2 (by omega))
  have q0 := (unhide R0) 0 (by decide)
  have q1 := (unhide R0) 1 (by decide)
  simp only [Nat.zero_add, st2] at q0 q1
  have bw2 : Below w.heap.size w w2 := bb.trans (hb2.mono (by omega))
  have KS : Hid (∀ w3, Below w2.heap.size w2 w3 → Calls Taig.prog 111 #[.slice sa n n, .int .i64 (count : Int), .slice d (dlen (M * N)) (dlen (M * N))] w3 fun e w' => e = .returned (.slice (some ⟨w3.heap.size, 0, none⟩) (n - count + 1) (n - count + 1)) ∧ Hid (Row w' w3.heap.size 0 (n - count + 1) (fun i => .slice (upd ad (n - count) d i) (dlen (upd S (n - count) (M * N) i)) (dlen (upd S (n - count) (M * N) i)))) ∧ Below w3.heap.size w3 w' ∧ Below w2.heap.size w2 w') := fun w3 h3 => by
    refine (stacked_any sa n count S ad d (M * N) w3 ((unhide HP).keep (bw2.trans (h3.mono (by have := hb2.size; omega)))) hn hc).mono ?_
    rintro e w' ⟨rfl, hr, hb⟩
    exact ⟨rfl, hr, hb, h3.trans (hb.mono h3.size)⟩
  have sz1 : (w2.alloc (.cells #[.slice none 0 0, .slice none 0 0] 102)).drew.heap.size = w2.heap.size + 1 := by simp
  have z0 := (st2_new w2 (.slice none 0 0) (.slice none 0 0)) 0 (by decide)
  have z1 := (st2_new w2 (.slice none 0 0) (.slice none 0 0)) 1 (by decide)
  have y0 := (free_new w2 #[.slice none 0 0, .slice none 0 0] 102 2).all (by decide) 0
  have y1 := (free_new w2 #[.slice none 0 0, .slice none 0 0] 102 2).all (by decide) 1
  simp only [Nat.zero_add, st2] at z0 z1
  have HD := hide hd
  clear hd r0' r1 f1 KT
  go_wp2
  have hlt : w.heap.size < w2.heap.size := by have := hb2.size; omega
  go_cut [13] (fun rv wc => ∃ rb nb, rv = .pointer (some ⟨rb, 0, none⟩) ∧ Hid (Mk w2 wc rb nb (n - count + 1) (.slice (some ⟨nb, 0, none⟩) (n - count + 1) (n - count + 1)) (.slice so k k) (fun i => .slice (upd ad (n - count) d i) (dlen (upd S (n - count) (M * N) i)) (dlen (upd S (n - count) (M * N) i)))))
  case first =>
    have nn0 := World.new_ne w2 _ q0
    have nn1 := World.new_ne w2 _ q1
    have nn2 : w.heap.size ≠ w2.heap.size := by omega
    have nn3 : w2.heap.size ≠ w.heap.size := by omega
    go_region_held3 (fun w' => w'.cell? ⟨w.heap.size, 0, none⟩ = some (.slice sa n n) ∧ w'.cell? ⟨w.heap.size, 1, none⟩ = some (.slice so k k)) (go_keep)
      (first
        | (go_at_call 111; refine (unhide KS _ ?_).mono ?_; exact (Below.refl _ _).drew; rintro e w4 ⟨rfl, hrow, hb4, hb24⟩; have p0 : w4.cell? ⟨w.heap.size, 0, none⟩ = some (.slice sa n n) := (hb24.cell hlt).trans q0; have p1 : w4.cell? ⟨w.heap.size, 1, none⟩ = some (.slice so k k) := (hb24.cell hlt).trans q1)
        | (go_at_call 111; refine (unhide KS _ ?_).mono ?_; exact ((Below.refl _ _).alloc (Nat.le_refl _) _).drew; rintro e w4 ⟨rfl, hrow, hb4, hb24⟩; have p0 : w4.cell? ⟨w.heap.size, 0, none⟩ = some (.slice sa n n) := (hb24.cell hlt).trans q0; have p1 : w4.cell? ⟨w.heap.size, 1, none⟩ = some (.slice so k k) := (hb24.cell hlt).trans q1
           have t0 : w4.cell? ⟨w2.heap.size, 0, none⟩ = some (.slice none 0 0) := (hb4.cell (by simp)).trans z0; have t1 : w4.cell? ⟨w2.heap.size, 1, none⟩ = some (.slice none 0 0) := (hb4.cell (by simp)).trans z1
           have t2 : w4.frozen? ⟨w2.heap.size, 0, none⟩ = false := (hb4.frozen (by simp)).trans y0; have t3 : w4.frozen? ⟨w2.heap.size, 1, none⟩ = false := (hb4.frozen (by simp)).trans y1))
    · go_wp2
      go_meet
      case rel => exact ⟨_, _, rfl, mkA _ _ (Nat.le_refl _) (unhide hrow) hb24⟩
    · go_wp2
      go_meet
      case rel => exact ⟨_, _, rfl, mkB _ _ rfl (by rw [← sz1]; exact unhide hrow) hb24 t0 t1⟩
  case rest =>
    obtain ⟨rb, nb, rfl, HM⟩ := hcut
    have sb2 := hb2.size
    have u0 := (unhide HM).2.2.1 0 (by decide)
    have u1 := (unhide HM).2.2.1 1 (by decide)
    have bc := (unhide HM).2.2.2.2
    have v0 := ((unhide R1).keep bc) 0 (by decide)
    have v1 := ((unhide R1).keep bc) 1 (by decide)
    have x0 := ((unhide F1).below bc (by omega)).all (by decide) 0
    have x1 := ((unhide F1).below bc (by omega)).all (by decide) 1
    simp only [Nat.zero_add, st2] at u0 u1 v0 v1
    have fin := hide ((unhide HM).nw (by omega) ((unhide HD).mono (Nat.le_of_eq s1.symm)) (.slice (some ⟨nb, 0, none⟩) (n - count + 1) (n - count + 1)) (.slice so k k) bw2 (Nat.le_succ _) (Nat.lt_succ_self _))
    have rng := hide (range_put ((unhide R1).keep bc) (.slice (some ⟨nb, 0, none⟩) (n - count + 1) (n - count + 1)) (.slice so k k))
    clear bc KS
    go_wp2
    refine bodyPost_ret (results_cell_at rfl _ _ (w.heap.size + 1) [.slice (some ⟨nb, 0, none⟩) (n - count + 1) (n - count + 1), .slice so k k] _ rfl (unhide rng) Taig.underlying102 rfl (by rw [Taig.size102]; rfl)) rfl ?_
    exact ⟨_, _, rfl, unhide fin⟩
end Go.Proofs.Ygctai
