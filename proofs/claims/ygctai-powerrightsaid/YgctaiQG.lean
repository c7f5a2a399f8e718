/-
  calc: what outcome keeps.
-/
import Derived.Test.YgctaiQF
import Derived.Deep.MidRow
namespace Go.Proofs.Ygctai
open Go.RowKit
set_option linter.unusedVariables false

/-- A stack that can be read: its row and its digits in blocks from B on. -/
structure Pcx (w : World) (B : Nat) (a : Option Addr) (n : Nat) (S : Nat → Nat) (ad : Nat → Option Addr) : Prop where
  row : 0 < n → ∃ b, a = some ⟨b, 0, none⟩ ∧ B ≤ b ∧ Row w b 0 n (fun i => .slice (ad i) (dlen (S i)) (dlen (S i)))
  ent : ∀ i, i < n → Nt w B (ad i) (S i)
def Pcr (w : World) (a : Option Addr) (n : Nat) (S : Nat → Nat) : Prop := ∃ ad, Pcx w 0 a n S ad
theorem Pcx.keep {w w' : World} {B : Nat} {a : Option Addr} {n : Nat} {S : Nat → Nat} {ad : Nat → Option Addr} (h : Pcx w B a n S ad) (hb : Below w.heap.size w w') : Pcx w' B a n S ad :=
  ⟨fun hn => by obtain ⟨b, e, hB, r⟩ := h.row hn; exact ⟨b, e, hB, r.keep hb⟩, fun i hi => (h.ent i hi).keep hb⟩
theorem Pcx.mono {w : World} {B B' : Nat} {a : Option Addr} {n : Nat} {S : Nat → Nat} {ad : Nat → Option Addr} (h : Pcx w B a n S ad) (hB : B' ≤ B) : Pcx w B' a n S ad :=
  ⟨fun hn => by obtain ⟨b, e, hB', r⟩ := h.row hn; exact ⟨b, e, by omega, r⟩, fun i hi => (h.ent i hi).mono hB⟩
theorem Pcx.grew {w w' : World} {B M : Nat} {a : Option Addr} {n : Nat} {S : Nat → Nat} {ad : Nat → Option Addr} (h : Pcx w B a n S ad) (hg : Grew (some ⟨M, 0, none⟩) w w') (hM : M < B) : Pcx w' B a n S ad := by
  refine ⟨fun hn => ?_, fun i hi => (h.ent i hi).grew' hg ((lo_some hM).apt (h.ent i hi).hi)⟩
  obtain ⟨b, e, hB, r⟩ := h.row hn
  exact ⟨b, e, hB, r.grew hg (fun e => by injection e with e; injection e with e; omega)⟩
theorem Pcr.keep {w w' : World} {a : Option Addr} {n : Nat} {S : Nat → Nat} (h : Pcr w a n S) (hb : Below w.heap.size w w') : Pcr w' a n S := by
  obtain ⟨ad, h⟩ := h; exact ⟨ad, h.keep hb⟩
theorem pcx_nil (w : World) (B : Nat) (S : Nat → Nat) (ad : Nat → Option Addr) : Pcx w B none 0 S ad := ⟨fun h => absurd h (Nat.lt_irrefl _), fun i h => absurd h (Nat.not_lt_zero _)⟩
theorem Pcx.congr {w : World} {B : Nat} {a : Option Addr} {n : Nat} {S S' : Nat → Nat} {ad : Nat → Option Addr} (h : Pcx w B a n S ad) (he : ∀ i, i < n → S i = S' i) : Pcx w B a n S' ad :=
  ⟨fun hn => by obtain ⟨b, e, hB, r⟩ := h.row hn; exact ⟨b, e, hB, r.congr (fun i hi => by rw [he i hi])⟩, fun i hi => by rw [← he i hi]; exact h.ent i hi⟩

/-- k times -2, to be read; in a block from B on. -/
def Oup (w : World) (B : Nat) (a : Option Addr) (k : Nat) : Prop := 0 < k → ∃ b, a = some ⟨b, 0, none⟩ ∧ B ≤ b ∧ Row w b 0 k (fun _ => .int .i8 (-2))
theorem Oup.keep {w w' : World} {B : Nat} {a : Option Addr} {k : Nat} (h : Oup w B a k) (hb : Below w.heap.size w w') : Oup w' B a k := fun hk => by
  obtain ⟨b, e, hB, r⟩ := h hk; exact ⟨b, e, hB, r.keep hb⟩
theorem Oup.mono {w : World} {B B' : Nat} {a : Option Addr} {k : Nat} (h : Oup w B a k) (hB : B' ≤ B) : Oup w B' a k := fun hk => by
  obtain ⟨b, e, hB', r⟩ := h hk; exact ⟨b, e, by omega, r⟩
theorem Oup.grew {w w' : World} {B M : Nat} {a : Option Addr} {k : Nat} (h : Oup w B a k) (hg : Grew (some ⟨M, 0, none⟩) w w') (hM : M < B) : Oup w' B a k := fun hk => by
  obtain ⟨b, e, hB, r⟩ := h hk
  exact ⟨b, e, hB, r.grew hg (fun e => by injection e with e; injection e with e; omega)⟩
theorem oup_nil (w : World) (B : Nat) : Oup w B none 0 := fun h => absurd h (Nat.lt_irrefl _)

theorem results_cell_at {P : Program} {fn : Func} {p : Tmp} {ty : TypeId} (h : fn.results = #[.cell p ty]) (tmps : Array Value) (w : World) (g : Nat) (cs : List Value) (d : TypeDesc)
    (hp : tmps.getD p undef = .pointer (some ⟨g, 0, none⟩)) (hg : w.rangeAt g 0 cs)
    (hu : P.underlying ty = some d) (hd : d.isRow = true) (hi : (P.info? ty).map (·.size) = some cs.length) :
    (results fn tmps).run P w = .ok (.agg cs.toArray) w := by
  have hp' : tmps[p]?.getD undef = .pointer (some ⟨g, 0, none⟩) := by simpa using hp
  simp [results, h, hp', asAddr, run_loadVar_mid w g 0 ty cs d hg hu hd hi]
theorem range_row {w : World} {g : Nat} {c : Nat → Value} {n : Nat} (h : Row w g 0 n c) (cs : List Value) (hc : ∀ j v, cs[j]? = some v → j < n ∧ c j = v) : w.rangeAt g 0 cs := fun j v hj => by
  obtain ⟨h1, h2⟩ := hc j v hj
  rw [h j h1, h2]

theorem Taig.size80 : (Taig.prog.info? 80).map (·.size) = some 3 := by kernel_rfl
theorem Taig.info22 : (Taig.prog.info? 22).map (fun i => (i.zero, i.size, i.bytes)) = some (some (.slice none 0 0), 1, 24) := by kernel_rfl
theorem Taig.size46 : (Taig.prog.info? 46).map (·.size) = some 1 := by kernel_rfl
theorem Taig.size23 : (Taig.prog.info? 23).map (·.size) = some 1 := by kernel_rfl
/-- 'make([][]uint8, n)'. -/
theorem make77 (n : Nat) (hn : n ≤ 1048576) (w : World) : (Instr.makeSlice 77 (.int .i64 (n : Int)) (.int .i64 (n : Int))).run Taig.prog w = .ok (.slice (some ⟨w.heap.size, 0, none⟩) n n) (w.alloc (made (.slice none 0 0) n 22)) :=
  run_make_row' 77 22 (.slice none 0 0) 24 Taig.underlying77 Taig.info22 rfl .i64 .i64 n (by omega) (by omega) w
/-- 'make([]int8, n)'. -/
theorem make78 (n : Nat) (hn : n ≤ 1048576) (w : World) : (Instr.makeSlice 78 (.int .i64 (n : Int)) (.int .i64 (n : Int))).run Taig.prog w = .ok (.slice (some ⟨w.heap.size, 0, none⟩) n n) (w.alloc (made (.int .i8 0) n 46)) :=
  run_make_row' 78 46 (.int .i8 0) 1 Taig.underlying78 Taig.info46 rfl .i64 .i64 n (by omega) (by omega) w
/-- 'make([]nat.Nat, n)'. -/
theorem make66 (n : Nat) (hn : n ≤ 1048576) (w : World) : (Instr.makeSlice 66 (.int .i64 (n : Int)) (.int .i64 (n : Int))).run Taig.prog w = .ok (.slice (some ⟨w.heap.size, 0, none⟩) n n) (w.alloc (made (.slice none 0 0) n 23)) :=
  run_make_row' 66 23 (.slice none 0 0) 24 Taig.underlying66 Taig.info23 rfl .i64 .i64 n (by omega) (by omega) w

/-! ### outcome -/
/-- The three cells of an Outcome. -/
def oc3 (s o : Value) : Nat → Value | 0 => .bool false | 1 => s | _ => o
/-- The result in block M, the variable o in block M + 1. -/
structure OcI (w wr : World) (M : Nat) (s o : Value) : Prop where
  b : Below M w wr
  r : Row wr M 0 3 (oc3 (.slice none 0 0) (.slice none 0 0))
  fr : Free wr M 0 3
  ro : Row wr (M + 1) 0 3 (oc3 s o)
  fo : Free wr (M + 1) 0 3
theorem OcI.size {w wr : World} {M : Nat} {s o : Value} (h : OcI w wr M s o) : M + 2 ≤ wr.heap.size := h.ro.block_lt (by decide)
theorem OcI.next {w wr wr' : World} {M : Nat} {s o : Value} (h : OcI w wr M s o) (hb : Below (M + 2) wr wr') : OcI w wr' M s o :=
  ⟨h.b.trans (hb.mono (by omega)), h.r.below hb (by omega), h.fr.below hb (by omega), h.ro.below hb (by omega), h.fo.below hb (by omega)⟩
theorem OcI.set1 {w wr : World} {M : Nat} {s o : Value} (h : OcI w wr M s o) (v : Value) : OcI w (wr.setCell ⟨M + 1, 1, none⟩ v) M v o :=
  ⟨h.b.setCell (Nat.le_succ M) _, h.r.setOther (.inl (by omega)) _, h.fr.setCell _ _, fun i hi => by
    have := h.ro.setCell (i := 1) (by decide) v i hi
    rw [Nat.zero_add] at this
    rw [this]
    match i, hi with
    | 0, _ => rfl
    | 1, _ => rfl
    | 2, _ => rfl, h.fo.setCell _ _⟩
theorem OcI.set2 {w wr : World} {M : Nat} {s o : Value} (h : OcI w wr M s o) (v : Value) : OcI w (wr.setCell ⟨M + 1, 2, none⟩ v) M s v :=
  ⟨h.b.setCell (Nat.le_succ M) _, h.r.setOther (.inl (by omega)) _, h.fr.setCell _ _, fun i hi => by
    have := h.ro.setCell (i := 2) (by decide) v i hi
    rw [Nat.zero_add] at this
    rw [this]
    match i, hi with
    | 0, _ => rfl
    | 1, _ => rfl
    | 2, _ => rfl, h.fo.setCell _ _⟩
theorem oci_new (w : World) : OcI w ((w.alloc (.cells #[.bool false, .slice none 0 0, .slice none 0 0] 80)).alloc (.cells #[.bool false, .slice none 0 0, .slice none 0 0] 80)) w.heap.size (.slice none 0 0) (.slice none 0 0) := by
  have e3 : ∀ i, i < 3 → (#[.bool false, .slice none 0 0, .slice none 0 0] : Array Value)[i]? = some (oc3 (.slice none 0 0) (.slice none 0 0) i) := fun i hi => by
    match i, hi with
    | 0, _ => rfl
    | 1, _ => rfl
    | 2, _ => rfl
  have r1 := row_new w _ 80 3 _ e3
  have r2 := row_new (w.alloc (.cells #[.bool false, .slice none 0 0, .slice none 0 0] 80)) _ 80 3 _ e3
  have f1 := free_new w #[.bool false, .slice none 0 0, .slice none 0 0] 80 3
  have f2 := free_new (w.alloc (.cells #[.bool false, .slice none 0 0, .slice none 0 0] 80)) #[.bool false, .slice none 0 0, .slice none 0 0] 80 3
  have hs : (w.alloc (.cells #[.bool false, .slice none 0 0, .slice none 0 0] 80)).heap.size = w.heap.size + 1 := by simp
  rw [hs] at r2 f2
  exact ⟨((Below.refl _ _).alloc (Nat.le_refl _) _).alloc (by omega) _, r1.alloc _, f1.below (below_alloc _ _) (by omega), r2, f2⟩

/-- The first i entries are there; their digits behind the row. -/
structure OcS (wr : World) (T n i : Nat) (S : Nat → Nat) (ad : Nat → Option Addr) : Prop where
  row : Row wr T 0 n (fun j => if j < i then .slice (ad j) (dlen (S j)) (dlen (S j)) else .slice none 0 0)
  fr : Free wr T 0 n
  ent : ∀ j, j < i → Nt wr (T + 1) (ad j) (S j)
theorem OcS.keep {wr wr' : World} {T n i : Nat} {S : Nat → Nat} {ad : Nat → Option Addr} (h : OcS wr T n i S ad) (hn : 0 < n) (hb : Below wr.heap.size wr wr') : OcS wr' T n i S ad :=
  ⟨h.row.keep hb, h.fr.below hb (h.row.block_lt hn), fun j hj => (h.ent j hj).keep hb⟩
theorem ocs_new (wr : World) (n : Nat) (S : Nat → Nat) (ad : Nat → Option Addr) : OcS (wr.alloc (made (.slice none 0 0) n 22)) wr.heap.size n 0 S ad :=
  ⟨(row_made _ _ _ _).congr (fun i hi => by rw [if_neg (by omega)]), free_made _ _ _ _, fun j hj => absurd hj (Nat.not_lt_zero _)⟩
theorem OcS.skip {wr : World} {T n i : Nat} {S : Nat → Nat} {ad : Nat → Option Addr} (h : OcS wr T n i S ad) (h0 : S i = 0) : OcS wr T n (i + 1) S (upd ad i none) := by
  refine ⟨h.row.congr (fun j hj => ?_), h.fr, fun j hj => ?_⟩
  · (try dsimp only)
    by_cases e : j = i
    · subst e; rw [if_neg (by omega), if_pos (by omega), upd_at, h0]; rfl
    · rw [upd_ne _ _ e]
      by_cases c : j < i
      · rw [if_pos c, if_pos (by omega)]
      · rw [if_neg c, if_neg (by omega)]
  · by_cases e : j = i
    · subst e; rw [upd_at, h0]; exact Nt.nil _ _
    · rw [upd_ne _ _ e]; exact h.ent j (by omega)
theorem OcS.pcx {wr : World} {T n : Nat} {S : Nat → Nat} {ad : Nat → Option Addr} (h : OcS wr T n n S ad) : Pcx wr T (some ⟨T, 0, none⟩) n S ad :=
  ⟨fun hn => ⟨T, rfl, Nat.le_refl _, h.row.congr (fun j hj => by rw [if_pos hj])⟩, fun i hi => (h.ent i hi).mono (by omega)⟩
/-- An entry's copy. -/
theorem OcS.step {wr : World} {T n i l : Nat} {S : Nat → Nat} {ad : Nat → Option Addr} (h : OcS wr T n i S ad) (hi : i < n) (hp : 0 < S i) (hl : l = dlen (S i)) (sp : Option Addr)
    (hs : Sl ((wr.alloc (made (.int .u8 0) l 5)).setCell ⟨T, i, none⟩ (.slice (some ⟨wr.heap.size, 0, none⟩) l l)).drew.drew sp l (dig (S i))) :
    ∃ w2, (Builtin.copy_ #[22, 23] 3 #[.slice (some ⟨wr.heap.size, 0, none⟩) l l, .slice sp l l]).run Taig.prog ((wr.alloc (made (.int .u8 0) l 5)).setCell ⟨T, i, none⟩ (.slice (some ⟨wr.heap.size, 0, none⟩) l l)).drew.drew = .ok (.int .i64 l) w2 ∧
      OcS w2 T n (i + 1) S (upd ad i (some ⟨wr.heap.size, 0, none⟩)) ∧ Below T wr w2 := by
  subst hl
  have hT := h.row.block_lt (by omega)
  have hD : T ≠ wr.heap.size := by omega
  have b1 : Below wr.heap.size wr (wr.alloc (made (.int .u8 0) (dlen (S i)) 5)) := below_alloc _ _
  have r0 := row_made wr (.int .u8 0) (dlen (S i)) 5
  have f0 := free_made wr (.int .u8 0) (dlen (S i)) 5
  have h1 := h.keep (by omega) b1
  have hsz : (wr.alloc (made (.int .u8 0) (dlen (S i)) 5)).heap.size = wr.heap.size + 1 := by simp
  generalize wr.alloc (made (.int .u8 0) (dlen (S i)) 5) = w1 at *
  have r1 := (r0.setOther (b' := T) (o' := i) (.inl hD) (.slice (some ⟨wr.heap.size, 0, none⟩) (dlen (S i)) (dlen (S i)))).drew.drew
  have f1 := (f0.setCell ⟨T, i, none⟩ (.slice (some ⟨wr.heap.size, 0, none⟩) (dlen (S i)) (dlen (S i)))).drew.drew
  have g1 := grew_set w1 T i (.slice (some ⟨wr.heap.size, 0, none⟩) (dlen (S i)) (dlen (S i)))
  have rT := h1.row.setCell (i := i) hi (.slice (some ⟨wr.heap.size, 0, none⟩) (dlen (S i)) (dlen (S i)))
  rw [Nat.zero_add] at rT
  have fT := h1.fr.setCell ⟨T, i, none⟩ (.slice (some ⟨wr.heap.size, 0, none⟩) (dlen (S i)) (dlen (S i)))
  have en : ∀ j, j < i → Nt (w1.setCell ⟨T, i, none⟩ (.slice (some ⟨wr.heap.size, 0, none⟩) (dlen (S i)) (dlen (S i)))) (T + 1) (ad j) (S j) := fun j hj => (h1.ent j hj).grew' g1 ((lo_some (Nat.lt_succ_self T)).apt (h1.ent j hj).hi)
  have lo : ∀ j, j < i → Lo wr.heap.size (ad j) := fun j hj => (h.ent j hj).lo
  have bT : Below T wr (w1.setCell ⟨T, i, none⟩ (.slice (some ⟨wr.heap.size, 0, none⟩) (dlen (S i)) (dlen (S i)))) := (b1.mono (Nat.le_of_lt hT)).setCell (Nat.le_refl _) _
  have hz2 : (w1.setCell ⟨T, i, none⟩ (.slice (some ⟨wr.heap.size, 0, none⟩) (dlen (S i)) (dlen (S i)))).heap.size = wr.heap.size + 1 := by simp [hsz]
  generalize w1.setCell ⟨T, i, none⟩ (.slice (some ⟨wr.heap.size, 0, none⟩) (dlen (S i)) (dlen (S i))) = w3 at *
  obtain ⟨w2, e, hw, r2⟩ := copy_oct 22 23 3 Taig.underlying22 w3.drew.drew wr.heap.size 0 (dlen (S i)) (dlen (S i)) sp (dlen (S i)) (dlen (S i)) (dig (S i)) (fun _ => 0) r1 f1 hs
  rw [Nat.min_self] at e hw r2
  have hz3 : w3.drew.drew.heap.size = wr.heap.size + 1 := hz2
  have bD : Below wr.heap.size w3 w2 := hw.below ((Below.refl _ _).drew.drew) (Nat.le_refl _) (by omega)
  refine ⟨w2, e, ⟨(rT.below bD hT).congr (fun j hj => ?_), fT.below bD hT, fun j hj => ?_⟩, bT.trans (bD.mono (by omega))⟩
  · by_cases e : j = i
    · subst e; rw [upd_at, if_pos (by omega), upd_at]
    · rw [upd_ne _ _ e, upd_ne _ _ e]
      by_cases c : j < i
      · rw [if_pos c, if_pos (by omega)]
      · rw [if_neg c, if_neg (by omega)]
  · by_cases e : j = i
    · subst e
      rw [upd_at]
      refine ⟨fun h0 => by omega, fun _ => ⟨_, _, rfl, by omega, r2.congr (fun q hq => by rw [oct_at, oct_at, if_pos hq]), f1.wr hw (by rw [hz3]; omega)⟩⟩
    · rw [upd_ne _ _ e]
      refine ((en j (by omega)).grew' (x := some ⟨wr.heap.size, 0, none⟩) ⟨bD.os, bD.tape, bD.output, bD.size, fun k hk hne => ?_⟩ ?_)
      · rcases Nat.lt_trichotomy k wr.heap.size with c | c | c
        · exact bD.block k c
        · exact absurd (by rw [c]) hne
        · omega
      · exact ((lo j (by omega)).apt (fun b o x e => by injection e with e; injection e with e; omega)).symm
end Go.Proofs.Ygctai
