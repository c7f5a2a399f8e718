/-
  SLICES OF NATURALS: rows of one's own that grow by append; numbers in a base of one's own.
-/
import Derived.Test.YgctaiDecS
namespace Go.Proofs.Ygctai
open Go.RowKit
set_option linter.unusedVariables false

/-! ### numbers in base T -/
/-- p 0 + p 1 T + .. -/
def bsv (T : Nat) (p : Nat → Nat) : Nat → Nat
  | 0 => 0
  | n + 1 => bsv T p n + p n * T ^ n
theorem bsv_congr {T : Nat} {p q : Nat → Nat} (n : Nat) (h : ∀ i, i < n → p i = q i) : bsv T p n = bsv T q n := by
  induction n with
  | zero => rfl
  | succ n ih => rw [bsv, bsv, ih (fun i hi => h i (by omega)), h n (by omega)]
theorem bsv_upd {T : Nat} (p : Nat → Nat) (n v : Nat) : bsv T (upd p n v) (n + 1) = bsv T p n + v * T ^ n := by
  rw [bsv, upd_at, bsv_congr n (fun i hi => upd_ne p v (by omega))]

/-! ### a row of one's own -/
/-- A row that may grow: in block B or later, all its room free to be written. -/
def Own (w : World) (B : Nat) (a : Option Addr) (n cap : Nat) (c : Nat → Value) : Prop :=
  n ≤ cap ∧ ((a = none ∧ cap = 0) ∨ ∃ b, a = some ⟨b, 0, none⟩ ∧ B ≤ b ∧ b < w.heap.size ∧ Row w b 0 cap c ∧ Free w b 0 cap)
theorem own_nil (w : World) (B : Nat) (c : Nat → Value) : Own w B none 0 0 c := ⟨Nat.le_refl _, .inl ⟨rfl, rfl⟩⟩
theorem own_made (w : World) (B : Nat) (z : Value) (cap e : Nat) (hB : B ≤ w.heap.size) : Own (w.alloc (made z cap e)) B (some ⟨w.heap.size, 0, none⟩) 0 cap (fun _ => z) :=
  ⟨Nat.zero_le _, .inr ⟨_, rfl, hB, by simp, row_made _ _ _ _, free_made _ _ _ _⟩⟩
theorem Own.le {w : World} {B : Nat} {a : Option Addr} {n cap : Nat} {c : Nat → Value} (h : Own w B a n cap c) : n ≤ cap := h.1
theorem Own.row {w : World} {B : Nat} {a : Option Addr} {n cap : Nat} {c : Nat → Value} (h : Own w B a n cap c) (hn : 0 < n) : ∃ b, a = some ⟨b, 0, none⟩ ∧ B ≤ b ∧ Row w b 0 n c := by
  obtain ⟨h1, ⟨_, rfl⟩ | ⟨b, rfl, hB, hb, r, _⟩⟩ := h
  · omega
  · exact ⟨b, rfl, hB, r.sub h1⟩
theorem Own.keep {w w' : World} {B : Nat} {a : Option Addr} {n cap : Nat} {c : Nat → Value} (h : Own w B a n cap c) (hb : Below w.heap.size w w') : Own w' B a n cap c := by
  obtain ⟨h1, ⟨rfl, rfl⟩ | ⟨b, rfl, hB, hl, r, f⟩⟩ := h
  · exact ⟨h1, .inl ⟨rfl, rfl⟩⟩
  · exact ⟨h1, .inr ⟨b, rfl, hB, Nat.lt_of_lt_of_le hl hb.size, r.keep hb, f.below hb hl⟩⟩
theorem Own.mono {w : World} {B B' : Nat} {a : Option Addr} {n cap : Nat} {c : Nat → Value} (h : Own w B a n cap c) (hB : B' ≤ B) : Own w B' a n cap c := by
  obtain ⟨h1, h | ⟨b, e, h2, r⟩⟩ := h
  · exact ⟨h1, .inl h⟩
  · exact ⟨h1, .inr ⟨b, e, by omega, r⟩⟩

/-- Blocks other than a's are as they were. -/
structure Grew (a : Option Addr) (w w' : World) : Prop where
  os : w'.os = w.os
  tape : w'.tape = w.tape
  output : w'.output = w.output
  size : w.heap.size ≤ w'.heap.size
  block : ∀ k, k < w.heap.size → a ≠ some ⟨k, 0, none⟩ → w'.heap[k]? = w.heap[k]?
theorem Grew.below {a : Option Addr} {w0 w w' : World} {B : Nat} (h : Grew a w w') (h0 : Below B w0 w) (hB : B ≤ w.heap.size) (ha : ∀ k, k < B → a ≠ some ⟨k, 0, none⟩) : Below B w0 w' :=
  h0.trans ⟨h.os, h.tape, h.output, h.size, fun k hk => h.block k (by omega) (ha k hk)⟩
theorem Row.grew {a : Option Addr} {w w' : World} {b off n : Nat} {c : Nat → Value} (h : Row w b off n c) (hg : Grew a w w') (ha : a ≠ some ⟨b, 0, none⟩) : Row w' b off n c := fun i hi => by
  rw [World.cell?_of_block (w := w) (hg.block b (h.block_lt (by omega)) ha)]; exact h i hi
theorem Free.grew {a : Option Addr} {w w' : World} {b off n : Nat} (h : Free w b off n) (hg : Grew a w w') (hb : b < w.heap.size) (ha : a ≠ some ⟨b, 0, none⟩) : Free w' b off n := ⟨fun hn o => by
  rw [World.frozen?_of_block (w := w) (hg.block b hb ha)]; exact h.all hn o⟩
theorem Nt.grew {a : Option Addr} {w w' : World} {B : Nat} {d : Option Addr} {N : Nat} (h : Nt w B d N) (hg : Grew a w w') (ha : ∀ b o x, a = some ⟨b, 0, none⟩ → d ≠ some ⟨b, o, x⟩) : Nt w' B d N := by
  refine ⟨h.1, fun hN => ?_⟩
  obtain ⟨b, o, rfl, hB, r, f⟩ := h.2 hN
  have hl := r.block_lt (dlen_pos hN)
  have hne : a ≠ some ⟨b, 0, none⟩ := fun e => ha b o none e rfl
  exact ⟨b, o, rfl, hB, r.grew hg hne, f.grew hg hl hne⟩

/-- The cells behind an append. -/
def appd (c : Nat → Value) (n : Nat) (u z : Value) : Nat → Value := fun i => if i < n then c i else if i = n then u else z
theorem appd_lt (c : Nat → Value) {n i : Nat} (u z : Value) (h : i < n) : appd c n u z i = c i := if_pos h
theorem appd_at (c : Nat → Value) (n : Nat) (u z : Value) : appd c n u z n = u := by unfold appd; rw [if_neg (by omega), if_pos rfl]

theorem zeros_at (z : Value) (k i : Nat) (h : i < k) : (Builtin.zeroCells #[z] k)[i]? = some z := by
  simp [Builtin.zeroCells, h, Nat.mod_one]

theorem grown_cells (c : Nat → Value) (n cap : Nat) (u z : Value) (h : n + 1 ≤ cap) : ∀ i, i < cap → (((List.range n).map c).toArray ++ [u].toArray ++ Builtin.zeroCells #[z] (cap - (n + 1)))[i]? = some (appd c n u z i) := fun i hi => by
  rcases Nat.lt_trichotomy i n with h1 | h1 | h1
  · rw [appd_lt c u z h1, Array.getElem?_append_left (by simp; omega), Array.getElem?_append_left (by simp; omega)]; simp [h1]
  · subst h1
    rw [appd_at, Array.getElem?_append_left (by simp), Array.getElem?_append_right (by simp)]; simp
  · rw [Array.getElem?_append_right (by simp; omega)]
    unfold appd
    rw [if_neg (by omega), if_neg (by omega)]
    exact zeros_at z _ _ (by simp; omega)

/-- 'append(out, u)' on a row of one's own, elements of one cell. -/
theorem app_own {P : Program} (t ty e : TypeId) (z : Value) (bytes : Nat) (hu : P.underlying t = some (.slice e)) (hinfo : (P.info? e).map (fun i => (i.zero, i.size, i.bytes)) = some (some z, 1, bytes)) (hzc : z.cells = #[z])
    (w : World) (B : Nat) (a : Option Addr) (n cap : Nat) (c : Nat → Value) (ho : Own w B a n cap c) (g : Nat) (u : Value) (hcell : w.cell? ⟨g, 0, none⟩ = some u) (h1 : u.oneCell' = true)
    (hn : n ≤ 1048576) (hb : bytes ≤ 1024) (hB : B ≤ w.heap.size) :
    ∃ a' cap' w' c', (Builtin.append_ #[t, t] ty #[.slice a n cap, .slice (some ⟨g, 0, none⟩) 1 1]).run P w = .ok (.slice a' (n + 1) cap') w' ∧ Own w' B a' (n + 1) cap' c' ∧ (∀ i, i < n → c' i = c i) ∧ c' n = u ∧ Grew a w w' ∧
      (a' = a ∨ a' = some ⟨w.heap.size, 0, none⟩) := by
  obtain ⟨i, hi, hz, hs, hby⟩ := info_parts hinfo
  have hnews : ∀ j v, [u][j]? = some v → w.cell? ((⟨g, 0, none⟩ : Addr).add j) = some v := fun j v hj => by
    match j, hj with
    | 0, hj => simp at hj; subst hj; exact hcell
  have hbyt : (n + 1) * bytes ≤ 140737488355328 := by
    have : (n + 1) * bytes ≤ 1048577 * 1024 := Nat.mul_le_mul (by omega) hb
    omega
  have hone : ∀ v ∈ [u], v.oneCell' = true := fun v hv => by simp at hv; subst hv; exact h1
  have hgrew : ∀ (o : Obj), Grew a w (w.drew.alloc o) := fun o => ⟨rfl, rfl, rfl, by simp, fun k hk _ => heap_alloc_old w.drew _ hk⟩
  obtain ⟨hle, ⟨rfl, rfl⟩ | ⟨b, rfl, hBb, hbl, r, f⟩⟩ := ho
  · obtain rfl : n = 0 := by omega
    have hge := grownCap_ge w 1 0 e
    have hr := run_append_nil (P := P) w t ty e i z hu hi hz ⟨g, 0, none⟩ 1 1 [u] (by simp [hs]) hnews (by omega) (by omega) (by rw [hby]; omega)
    rw [hzc] at hr
    refine ⟨_, _, _, appd c 0 u z, hr, ⟨hge, .inr ⟨_, rfl, hB, by simp, row_new w.drew _ _ _ _ ?_, free_new w.drew _ _ _⟩⟩, fun i hi => by omega, appd_at _ _ _ _, hgrew _, .inr rfl⟩
    have := grown_cells c 0 (grownCap w 1 0 e) u z hge
    simpa using this
  · by_cases hroom : n + 1 ≤ cap
    · have := run_append_room_cells (P := P) w t ty e i hu hi b 0 n cap ⟨g, 0, none⟩ 1 1 [u] (by simp [hs]) hnews hone hroom
        (fun j hj => by simp at hj; subst hj; rw [hs, Nat.mul_one, Nat.add_zero, r n (by omega)]; rfl) (fun j hj => by simp at hj; subst hj; rw [hs, Nat.mul_one, Nat.add_zero]; exact f n (by omega))
      rw [hs, Nat.mul_one, setCells_one] at this
      exact ⟨_, _, _, upd c n u, this, ⟨hroom, .inr ⟨b, rfl, hBb, by simpa using hbl, r.setCell (by omega) u, f.setCell _ _⟩⟩, fun i hi => upd_ne c u (by omega), upd_at _ _ _,
        ⟨rfl, rfl, rfl, by simp, fun k hk hne => Below.heap_setCell _ _ _ _ (fun h => hne (by rw [h]))⟩, .inl rfl⟩
    · have hge := grownCap_ge w (n + 1) cap e
      have hr := run_append_grow (P := P) w t ty e i z hu hi hz ⟨b, 0, none⟩ n cap ((List.range n).map c) (by simp [hs]) (fun j v hj => by
          simp only [List.getElem?_map, Option.map_eq_some_iff] at hj
          obtain ⟨j', hj1, rfl⟩ := hj
          obtain ⟨hj3, hj4⟩ := List.getElem?_eq_some_iff.1 hj1
          simp at hj3 hj4
          subst hj4
          have := r j (by omega)
          rwa [show (⟨b, 0, none⟩ : Addr).add j = ⟨b, 0 + j, none⟩ from by unfold Addr.add; split <;> simp_all])
        ⟨g, 0, none⟩ 1 1 [u] (by simp [hs]) hnews (by omega) (by omega) (growslice_fits (by omega) (by rw [hby]; exact hbyt))
      rw [hzc] at hr
      exact ⟨_, _, _, appd c n u z, hr, ⟨hge, .inr ⟨_, rfl, hB, by simp, row_new w.drew _ _ _ _ (grown_cells c n _ u z hge), free_new w.drew _ _ _⟩⟩, fun i hi => appd_lt _ _ _ hi, appd_at _ _ _ _, hgrew _, .inr rfl⟩

/-- An append whose run is known. -/
theorem wpList_append_run {P : Program} {w w' : World} {ops : Array Oper} {rest : List Oper} {o : Oper} {a : Act} {Q : Exit → Act → World → Prop} (hgd : o.guard = none) (s x : Operand) (t : TypeId)
    (ho : o.op = .call { callee := .builtin .append, args := #[s, x], argTypes := #[t, t] }) (v u v' : Value) (hs : a.eval s = v) (hx : a.eval x = u) (hr : (Builtin.append_ #[t, t] o.type #[v, u]).run P w = .ok v' w')
    (h : wpList P ops Q rest (a.put o.dst v') w') : wpList P ops Q (o :: rest) a w :=
  wpList_plain hgd fun K hK => by
    unfold Oper.wp execOp
    simp only [ho, resolve, invoke, builtin, Sem.run_bind, Sem.run_pure, Result.andThen_ok, List.map_toArray, List.map_cons, List.map_nil, hs, hx, hr]
    exact hK _ _ h

/-! ### pieces -/
/-- A slice of naturals p 0, p 1, ..; its row lies in block B or later, apart from the digits. -/
def Pc (w : World) (B : Nat) (a : Option Addr) (n cap : Nat) (p : Nat → Nat) : Prop :=
  ∃ c, Own w B a n cap c ∧ ∀ i, i < n → ∃ ad, c i = .slice ad (dlen (p i)) (dlen (p i)) ∧ Nt w 0 ad (p i) ∧ ∀ b o x, a = some ⟨b, 0, none⟩ → ad ≠ some ⟨b, o, x⟩

theorem pc_nil (w : World) (B : Nat) (p : Nat → Nat) : Pc w B none 0 0 p := ⟨fun _ => .bool false, own_nil _ _ _, fun i hi => absurd hi (by omega)⟩
theorem pc_made (w : World) (B : Nat) (z : Value) (cap e : Nat) (p : Nat → Nat) (hB : B ≤ w.heap.size) : Pc (w.alloc (made z cap e)) B (some ⟨w.heap.size, 0, none⟩) 0 cap p :=
  ⟨_, own_made w B z cap e hB, fun i hi => absurd hi (by omega)⟩
theorem Pc.le {w : World} {B : Nat} {a : Option Addr} {n cap : Nat} {p : Nat → Nat} (h : Pc w B a n cap p) : n ≤ cap := by obtain ⟨c, h, _⟩ := h; exact h.le
theorem Pc.keep {w w' : World} {B : Nat} {a : Option Addr} {n cap : Nat} {p : Nat → Nat} (h : Pc w B a n cap p) (hb : Below w.heap.size w w') : Pc w' B a n cap p := by
  obtain ⟨c, ho, h⟩ := h
  refine ⟨c, ho.keep hb, fun i hi => ?_⟩
  obtain ⟨ad, e, hn, hx⟩ := h i hi
  exact ⟨ad, e, hn.keep hb, hx⟩
theorem Pc.mono {w : World} {B B' : Nat} {a : Option Addr} {n cap : Nat} {p : Nat → Nat} (h : Pc w B a n cap p) (hB : B' ≤ B) : Pc w B' a n cap p := by
  obtain ⟨c, ho, h⟩ := h
  exact ⟨c, ho.mono hB, h⟩
/-- pieces[i]. -/
theorem Pc.at {w : World} {B : Nat} {a : Option Addr} {n cap : Nat} {p : Nat → Nat} (h : Pc w B a n cap p) {i : Nat} (hi : i < n) :
    ∃ b ad, a = some ⟨b, 0, none⟩ ∧ w.cell? ⟨b, i, none⟩ = some (.slice ad (dlen (p i)) (dlen (p i))) ∧ Nt w 0 ad (p i) := by
  obtain ⟨c, ho, h⟩ := h
  obtain ⟨b, rfl, _, r⟩ := ho.row (by omega)
  obtain ⟨ad, e, hn, _⟩ := h i hi
  have := r i hi
  rw [Nat.zero_add, e] at this
  exact ⟨b, ad, rfl, this, hn⟩
theorem Pc.block {w : World} {B : Nat} {a : Option Addr} {n cap : Nat} {p : Nat → Nat} (h : Pc w B a n cap p) : ∀ k, a = some ⟨k, 0, none⟩ → B ≤ k ∧ k < w.heap.size := fun k e => by
  obtain ⟨c, ⟨_, ⟨rfl, _⟩ | ⟨b, rfl, hB, hl, _⟩⟩, _⟩ := h
  · cases e
  · injection e with e; injection e with e; subst e; exact ⟨hB, hl⟩

theorem Taig.info23 : (Taig.prog.info? 23).map (fun i => (i.zero, i.size, i.bytes)) = some (some (.slice none 0 0), 1, 24) := by kernel_rfl

/-- 'append(out, x)', x a natural apart from the row. -/
theorem pc_append (w : World) (B : Nat) (a : Option Addr) (n cap : Nat) (p : Nat → Nat) (h : Pc w B a n cap p) (g N : Nat) (d : Option Addr) (hcell : w.cell? ⟨g, 0, none⟩ = some (.slice d (dlen N) (dlen N))) (hN : Nt w 0 d N)
    (hd : ∀ b o x, a = some ⟨b, 0, none⟩ → d ≠ some ⟨b, o, x⟩) (hn : n ≤ 1048576) (hB : B ≤ w.heap.size) :
    ∃ a' cap' w', (Builtin.append_ #[66, 66] 66 #[.slice a n cap, .slice (some ⟨g, 0, none⟩) 1 1]).run Taig.prog w = .ok (.slice a' (n + 1) cap') w' ∧ Pc w' B a' (n + 1) cap' (upd p n N) ∧ Grew a w w' ∧
      (a' = a ∨ a' = some ⟨w.heap.size, 0, none⟩) := by
  obtain ⟨c, ho, hp⟩ := h
  obtain ⟨a', cap', w', c', hr, ho', hc1, hc2, hg, ha⟩ := app_own 66 66 23 (.slice none 0 0) 24 Taig.underlying66 Taig.info23 rfl w B a n cap c ho g _ hcell rfl hn (by omega) hB
  have hap : ∀ ad M, Nt w 0 ad M → (∀ b o x, a = some ⟨b, 0, none⟩ → ad ≠ some ⟨b, o, x⟩) → ∀ b o x, a' = some ⟨b, 0, none⟩ → ad ≠ some ⟨b, o, x⟩ := fun ad M hM hx b o x e => by
    rcases ha with rfl | rfl
    · exact hx b o x e
    · injection e with e; injection e with e
      rintro rfl
      rcases Nat.eq_zero_or_pos M with h0 | h0
      · have := hM.1 h0; cases this
      · obtain ⟨b', o', e', _, r, _⟩ := hM.2 h0
        have := r.block_lt (dlen_pos h0)
        injection e' with e'; injection e' with e'
        omega
  refine ⟨a', cap', w', hr, ⟨c', ho', fun i hi => ?_⟩, hg, ha⟩
  by_cases hin : i = n
  · subst hin
    exact ⟨d, by rw [hc2, upd_at], by rw [upd_at]; exact hN.grew hg hd, hap d N hN hd⟩
  · obtain ⟨ad, e, hn', hx⟩ := hp i (by omega)
    exact ⟨ad, by rw [hc1 i (by omega), e, upd_ne _ _ hin], by rw [upd_ne _ _ hin]; exact hn'.grew hg hx, hap ad _ hn' hx⟩

/-- 'make([]nat.Nat, 0, c)'. -/
theorem make66cap (c : Nat) (hn : c ≤ 1099511627776) (w : World) : (Instr.makeSlice 66 (.int .i64 0) (.int .i64 (c : Int))).run Taig.prog w = .ok (.slice (some ⟨w.heap.size, 0, none⟩) 0 c) (w.alloc (made (.slice none 0 0) c 23)) := by
  obtain ⟨i, hi, hz, hs, hb⟩ := info_parts Taig.info23
  have := run_make (P := Taig.prog) w 66 23 i (.slice none 0 0) Taig.underlying66 hi hz .i64 .i64 0 c (by omega) (by omega) (by rw [hb]; omega) (by omega)
  rw [hs, Nat.mul_one] at this
  exact this
end Go.Proofs.Ygctai
