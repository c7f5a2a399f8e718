/-
  Scripts in memory: rows of Ops, of two cells each, that grow by append.
-/
import Derived.Test.YgctaiQP
namespace Go.Proofs.Ygctai
open Go.RowKit
set_option linter.unusedVariables false

/-- A row of elements of two cells. -/
def Own2 (w : World) (B : Nat) (a : Option Addr) (n cap : Nat) (c : Nat → Value) : Prop :=
  n ≤ cap ∧ ((a = none ∧ cap = 0) ∨ ∃ b, a = some ⟨b, 0, none⟩ ∧ B ≤ b ∧ b < w.heap.size ∧ Row w b 0 (2 * cap) c ∧ Free w b 0 (2 * cap))
theorem own2_nil (w : World) (B : Nat) (c : Nat → Value) : Own2 w B none 0 0 c := ⟨Nat.le_refl _, .inl ⟨rfl, rfl⟩⟩
theorem Own2.keep {w w' : World} {B : Nat} {a : Option Addr} {n cap : Nat} {c : Nat → Value} (h : Own2 w B a n cap c) (hb : Below w.heap.size w w') : Own2 w' B a n cap c := by
  obtain ⟨h1, ⟨rfl, rfl⟩ | ⟨b, rfl, hB, hl, r, f⟩⟩ := h
  · exact ⟨h1, .inl ⟨rfl, rfl⟩⟩
  · exact ⟨h1, .inr ⟨b, rfl, hB, Nat.lt_of_lt_of_le hl hb.size, r.keep hb, f.below hb hl⟩⟩
theorem Own2.row {w : World} {B : Nat} {a : Option Addr} {n cap : Nat} {c : Nat → Value} (h : Own2 w B a n cap c) (hn : 0 < n) : ∃ b, a = some ⟨b, 0, none⟩ ∧ B ≤ b ∧ b < w.heap.size ∧ Row w b 0 (2 * n) c := by
  obtain ⟨h1, ⟨_, rfl⟩ | ⟨b, rfl, hB, hb, r, _⟩⟩ := h
  · omega
  · exact ⟨b, rfl, hB, hb, r.sub (by omega)⟩
theorem Own2.hi {w : World} {B : Nat} {a : Option Addr} {n cap : Nat} {c : Nat → Value} (h : Own2 w B a n cap c) : ∀ k, k < B → a ≠ some ⟨k, 0, none⟩ := fun k hk e => by
  obtain ⟨h1, ⟨rfl, _⟩ | ⟨b, rfl, hB, hb, r, _⟩⟩ := h
  · cases e
  · injection e with e; injection e with e; omega

theorem Taig.info74 : (Taig.prog.info? 74).map (fun i => (i.zero, i.size, i.bytes)) = some (some (.agg #[.int .u8 0, .slice none 0 0]), 2, 32) := by kernel_rfl

theorem setCells_size (b : Nat) : ∀ (vs : List Value) (o : Nat) (w : World), (w.setCells b o vs).heap.size = w.heap.size
  | [], o, w => rfl
  | v :: r, o, w => by
    rw [show w.setCells b o (v :: r) = (w.setCell ⟨b, o, none⟩ v).setCells b (o + 1) r from rfl, setCells_size b r]; simp
theorem setCells_row {w : World} {b N : Nat} {c : Nat → Value} (r : Row w b 0 N c) (f : Free w b 0 N) (hb : b < w.heap.size) (us : List Value) (o : Nat) (h : o + us.length ≤ N) :
    Row (w.setCells b o us) b 0 N (fun i => if i < o then c i else (us[i - o]?).getD (c i)) ∧ Free (w.setCells b o us) b 0 N ∧ (w.setCells b o us).heap.size = w.heap.size := by
  have hwr := wr_setCells b us o w
  refine ⟨fun i hi => ?_, f.wr hwr hb, ?_⟩
  · by_cases h1 : o ≤ i ∧ i < o + us.length
    · have := World.cell?_setCells_in b us o w (fun j hj => by have := r (o + j) (by omega); rw [Nat.zero_add] at this; rw [this]; rfl) (i - o) (by omega)
      rw [show o + (i - o) = i by omega] at this
      dsimp only
      rw [Nat.zero_add, this, if_neg (by omega)]
      have hlt : i - o < us.length := by omega
      simp [hlt]
    · rw [World.cell?_setCells_out b us o w _ (fun _ hj => by simp only at hj ⊢; omega), r i hi]
      dsimp only
      by_cases h2 : i < o
      · rw [if_pos h2]
      · rw [if_neg h2, List.getElem?_eq_none (by omega)]; rfl
  · exact setCells_size b us o w

/-- 'append(script, ..)'. -/
theorem app_own2 (w : World) (B : Nat) (a : Option Addr) (n cap : Nat) (c : Nat → Value) (ho : Own2 w B a n cap c) (g m : Nat) (us : List Value) (hus : us.length = m * 2) (hm : 0 < m) (hm2 : m ≤ 2)
    (hcell : ∀ j u, us[j]? = some u → w.cell? ⟨g, j, none⟩ = some u) (h1 : ∀ u ∈ us, u.oneCell' = true) (hn : n ≤ 1048576) (hB : B ≤ w.heap.size) :
    ∃ a' cap' w' c', (Builtin.append_ #[43, 43] 43 #[.slice a n cap, .slice (some ⟨g, 0, none⟩) m m]).run Taig.prog w = .ok (.slice a' (n + m) cap') w' ∧ Own2 w' B a' (n + m) cap' c' ∧ (∀ i, i < 2 * n → c' i = c i) ∧ (∀ j u, us[j]? = some u → c' (2 * n + j) = u) ∧ Grew a w w' ∧
      (a' = a ∨ a' = some ⟨w.heap.size, 0, none⟩) := by
  obtain ⟨i, hi, hz, hs, hby⟩ := info_parts Taig.info74
  have hzc : (Value.agg #[.int .u8 0, .slice none 0 0]).cells = #[.int .u8 0, .slice none 0 0] := rfl
  have hnews : ∀ j v, us[j]? = some v → w.cell? ((⟨g, 0, none⟩ : Addr).add j) = some v := fun j v hj => by
    rw [show (⟨g, 0, none⟩ : Addr).add j = ⟨g, j, none⟩ from by unfold Addr.add; split <;> simp_all]
    exact hcell j v hj
  have hgrew : ∀ (o : Obj), Grew a w (w.drew.alloc o) := fun o => ⟨rfl, rfl, rfl, by simp, fun k hk _ => heap_alloc_old w.drew _ hk⟩
  have hzs : ∀ k, (Builtin.zeroCells #[.int .u8 0, .slice none 0 0] k).size = 2 * k := fun k => by simp [Builtin.zeroCells]; try omega
  have fin : ∀ (arr : Array Value) (i : Nat), i < arr.size → arr[i]? = some (arr[i]?.getD (.bool false)) := fun arr i hi => by simp [hi]
  obtain ⟨hle, ⟨rfl, rfl⟩ | ⟨b, rfl, hBb, hbl, r, f⟩⟩ := ho
  · obtain rfl : n = 0 := by omega
    have hge := grownCap_ge w m 0 74
    have hr := run_append_nil (P := Taig.prog) w 43 43 74 i _ Taig.underlying43 hi hz ⟨g, 0, none⟩ m m us (by rw [hs]; exact hus) hnews (by omega) (by omega) (by rw [hby]; omega)
    rw [hzc] at hr
    have hsz : (us.toArray ++ Builtin.zeroCells #[.int .u8 0, .slice none 0 0] (grownCap w m 0 74 - m)).size = 2 * grownCap w m 0 74 := by
      rw [Array.size_append, hzs]; simp only [List.size_toArray]; omega
    refine ⟨_, _, _, fun i => ((us.toArray ++ Builtin.zeroCells #[.int .u8 0, .slice none 0 0] (grownCap w m 0 74 - m))[i]?).getD (.bool false), by rw [Nat.zero_add]; exact hr,
      ⟨by omega, .inr ⟨_, rfl, hB, by simp, row_new w.drew _ _ _ _ (fun i hi => fin _ i (by omega)), free_new w.drew _ _ _⟩⟩, fun i hi => by omega, fun j u hj => ?_, hgrew _, .inr rfl⟩
    have hjl := (List.getElem?_eq_some_iff.1 hj).1
    dsimp only
    rw [show 2 * 0 + j = j by omega, Array.getElem?_append_left (by simpa using hjl)]
    simp [hj]
  · by_cases hroom : n + m ≤ cap
    · have := run_append_room_cells (P := Taig.prog) w 43 43 74 i Taig.underlying43 hi b 0 n cap ⟨g, 0, none⟩ m m us (by rw [hs]; exact hus) hnews h1 hroom
        (fun j hj => by have := r (n * 2 + j) (by omega); rw [hs, Nat.add_assoc, this]; rfl) (fun j hj => by rw [hs]; exact f.all (by omega) _)
      rw [hs, Nat.zero_add, Nat.mul_comm] at this
      obtain ⟨r', f', s'⟩ := setCells_row r f hbl us (2 * n) (by omega)
      refine ⟨_, _, _, _, this, ⟨hroom, .inr ⟨b, rfl, hBb, by rw [s']; exact hbl, r', f'⟩⟩, fun i hi => by (try dsimp only); rw [if_pos hi], fun j u hj => ?_, ?_, .inl rfl⟩
      · (try dsimp only)
        rw [if_neg (by omega), show 2 * n + j - 2 * n = j by omega, hj]; rfl
      · have hw := wr_setCells b us (2 * n) w
        exact ⟨hw.os, hw.tape, hw.output, hw.size, fun k hk hne => hw.block k hk (fun e => hne (by rw [e]))⟩
    · have hge := grownCap_ge w (n + m) cap 74
      have hbyt : (n + m) * 32 ≤ 140737488355328 := by omega
      have hr := run_append_grow (P := Taig.prog) w 43 43 74 i _ Taig.underlying43 hi hz ⟨b, 0, none⟩ n cap ((List.range (2 * n)).map c) (by simp [hs]; omega) (fun j v hj => by
          simp only [List.getElem?_map, Option.map_eq_some_iff] at hj
          obtain ⟨j', hj1, rfl⟩ := hj
          obtain ⟨hj3, hj4⟩ := List.getElem?_eq_some_iff.1 hj1
          simp at hj3 hj4
          subst hj4
          have := r j (by omega)
          rwa [show (⟨b, 0, none⟩ : Addr).add j = ⟨b, 0 + j, none⟩ from by unfold Addr.add; split <;> simp_all])
        ⟨g, 0, none⟩ m m us (by rw [hs]; exact hus) hnews (by omega) (by omega) (growslice_fits (by omega) (by rw [hby]; exact hbyt))
      rw [hzc] at hr
      have hsz : (((List.range (2 * n)).map c).toArray ++ us.toArray ++ Builtin.zeroCells #[.int .u8 0, .slice none 0 0] (grownCap w (n + m) cap 74 - (n + m))).size = 2 * grownCap w (n + m) cap 74 := by
        rw [Array.size_append, Array.size_append, hzs]; simp only [List.size_toArray, List.length_map, List.length_range]; omega
      refine ⟨_, _, _, fun i => ((((List.range (2 * n)).map c).toArray ++ us.toArray ++ Builtin.zeroCells #[.int .u8 0, .slice none 0 0] (grownCap w (n + m) cap 74 - (n + m)))[i]?).getD (.bool false), hr,
        ⟨hge, .inr ⟨_, rfl, hB, by simp, row_new w.drew _ _ _ _ (fun i hi => fin _ i (by omega)), free_new w.drew _ _ _⟩⟩, fun i hi => ?_, fun j u hj => ?_, hgrew _, .inr rfl⟩
      · dsimp only
        rw [Array.getElem?_append_left (by simp; omega), Array.getElem?_append_left (by simp; omega)]
        simp [hi]
      · have hjl := (List.getElem?_eq_some_iff.1 hj).1
        dsimp only
        rw [Array.getElem?_append_left (by simp; omega), Array.getElem?_append_right (by simp)]
        simp [hj]

theorem Sl.grew {x : Option Addr} {w w' : World} {a : Option Addr} {n : Nat} {f : Nat → Nat} (h : Sl w a n f) (hg : Grew x w w') (ha : Apt x a) : Sl w' a n f := fun hn => by
  obtain ⟨b, o, e, r⟩ := h hn
  exact ⟨b, o, e, r.grew hg (fun e' => ha b 0 none o none e' e)⟩

/-- The two cells of an Op of kind k and value v, its digits apart from a's row. -/
def Opx (w : World) (a : Option Addr) (u1 u2 : Value) (k v : Nat) : Prop :=
  (k = 0 ∨ k = 1 ∨ k = 4) ∧ u1 = .int .u8 k ∧ ∃ ad la ca f, u2 = .slice ad la ca ∧ Sl w ad la f ∧ Byt f ∧ la ≤ ca ∧ ca ≤ 9223372036854775807 ∧ la ≤ 512 ∧ val f la = v ∧ Apt a ad ∧ Lo w.heap.size ad
theorem Opx.keep {w w' : World} {a : Option Addr} {u1 u2 : Value} {k v : Nat} (h : Opx w a u1 u2 k v) (hb : Below w.heap.size w w') : Opx w' a u1 u2 k v := by
  obtain ⟨h1, h2, ad, la, ca, f, h3, h4, h5, h6, h7, h8, h9, h10, h11⟩ := h
  exact ⟨h1, h2, ad, la, ca, f, h3, h4.keep hb, h5, h6, h7, h8, h9, h10, h11.mono hb.size⟩
theorem Opx.grew {w w' : World} {a a' : Option Addr} {u1 u2 : Value} {k v : Nat} (h : Opx w a u1 u2 k v) (hg : Grew a w w') (ha : a' = a ∨ a' = some ⟨w.heap.size, 0, none⟩) : Opx w' a' u1 u2 k v := by
  obtain ⟨h1, h2, ad, la, ca, f, h3, h4, h5, h6, h7, h8, h9, h10, h11⟩ := h
  exact ⟨h1, h2, ad, la, ca, f, h3, h4.grew hg h10, h5, h6, h7, h8, h9, apt_grown ha (Nat.le_refl _) h11 h10, h11.mono hg.size⟩
theorem opx_nil (w : World) (a : Option Addr) (k : Nat) (h : k = 1 ∨ k = 4) : Opx w a (.int .u8 k) (.slice none 0 0) k 0 :=
  ⟨by omega, rfl, none, 0, 0, fun _ => 0, rfl, fun h => absurd h (Nat.lt_irrefl _), byt_zero, Nat.le_refl _, by omega, by omega, rfl, (apt_none a).symm, fun b o x e => by cases e⟩
theorem opx_push (w : World) (a ad : Option Addr) (la ca : Nat) (f : Nat → Nat) (hs : Sl w ad la f) (hf : Byt f) (h1 : la ≤ ca) (h2 : ca ≤ 9223372036854775807) (h3 : la ≤ 512) (ha : Apt a ad) (hl : Lo w.heap.size ad) : Opx w a (.int .u8 0) (.slice ad la ca) 0 (val f la) :=
  ⟨.inl rfl, rfl, ad, la, ca, f, rfl, hs, hf, h1, h2, h3, rfl, ha, hl⟩

/-- A script of one's own. -/
def SOwn (w : World) (B : Nat) (a : Option Addr) (n cap : Nat) (ks vs : Nat → Nat) : Prop :=
  ∃ c, Own2 w B a n cap c ∧ ∀ i, i < n → Opx w a (c (2 * i)) (c (2 * i + 1)) (ks i) (vs i)
theorem sown_nil (w : World) (B : Nat) (ks vs : Nat → Nat) : SOwn w B none 0 0 ks vs := ⟨fun _ => .bool false, own2_nil _ _ _, fun i h => absurd h (Nat.not_lt_zero _)⟩
theorem SOwn.keep {w w' : World} {B : Nat} {a : Option Addr} {n cap : Nat} {ks vs : Nat → Nat} (h : SOwn w B a n cap ks vs) (hb : Below w.heap.size w w') : SOwn w' B a n cap ks vs := by
  obtain ⟨c, h1, h2⟩ := h
  exact ⟨c, h1.keep hb, fun i hi => (h2 i hi).keep hb⟩
theorem SOwn.hi {w : World} {B : Nat} {a : Option Addr} {n cap : Nat} {ks vs : Nat → Nat} (h : SOwn w B a n cap ks vs) : ∀ k, k < B → a ≠ some ⟨k, 0, none⟩ := by
  obtain ⟨c, h1, h2⟩ := h
  exact h1.hi
theorem SOwn.app1 {w : World} {B : Nat} {a : Option Addr} {n cap : Nat} {ks vs : Nat → Nat} (h : SOwn w B a n cap ks vs) (g k v : Nat) (u1 u2 : Value) (c1 : w.cell? ⟨g, 0, none⟩ = some u1) (c2 : w.cell? ⟨g, 1, none⟩ = some u2) (hop : Opx w a u1 u2 k v)
    (hn : n ≤ 1048576) (hB : B ≤ w.heap.size) :
    ∃ a' cap' w', (Builtin.append_ #[43, 43] 43 #[.slice a n cap, .slice (some ⟨g, 0, none⟩) 1 1]).run Taig.prog w = .ok (.slice a' (n + 1) cap') w' ∧ SOwn w' B a' (n + 1) cap' (upd ks n k) (upd vs n v) ∧ Grew a w w' ∧ (a' = a ∨ a' = some ⟨w.heap.size, 0, none⟩) := by
  obtain ⟨c, ho, hc⟩ := h
  have ho1 : u1.oneCell' = true := by rw [hop.2.1]; rfl
  have ho2 : u2.oneCell' = true := by obtain ⟨_, _, ad, la, ca, f, rfl, _⟩ := hop; rfl
  obtain ⟨a', cap', w', c', hr, ho', e1, e2, hg, ha⟩ := app_own2 w B a n cap c ho g 1 [u1, u2] rfl (by decide) (by decide) (fun j u hj => by
    match j, hj with
    | 0, hj => simp at hj; subst hj; exact c1
    | 1, hj => simp at hj; subst hj; exact c2) (fun u hu => by simp at hu; rcases hu with rfl | rfl <;> assumption) hn hB
  refine ⟨a', cap', w', hr, ⟨c', ho', fun i hi => ?_⟩, hg, ha⟩
  by_cases e : i = n
  · subst e
    rw [upd_at, upd_at]
    have q1 := e2 0 u1 rfl
    have q2 := e2 1 u2 rfl
    rw [Nat.add_zero] at q1
    rw [q1, q2]; exact hop.grew hg ha
  · rw [upd_ne _ _ e, upd_ne _ _ e, e1 _ (by omega), e1 _ (by omega)]
    exact (hc i (by omega)).grew hg ha
theorem SOwn.app2 {w : World} {B : Nat} {a : Option Addr} {n cap : Nat} {ks vs : Nat → Nat} (h : SOwn w B a n cap ks vs) (g k v k' v' : Nat) (u1 u2 u3 u4 : Value) (c1 : w.cell? ⟨g, 0, none⟩ = some u1) (c2 : w.cell? ⟨g, 1, none⟩ = some u2) (c3 : w.cell? ⟨g, 2, none⟩ = some u3) (c4 : w.cell? ⟨g, 3, none⟩ = some u4)
    (hop : Opx w a u1 u2 k v) (hop' : Opx w a u3 u4 k' v') (hn : n ≤ 1048576) (hB : B ≤ w.heap.size) :
    ∃ a' cap' w', (Builtin.append_ #[43, 43] 43 #[.slice a n cap, .slice (some ⟨g, 0, none⟩) 2 2]).run Taig.prog w = .ok (.slice a' (n + 2) cap') w' ∧ SOwn w' B a' (n + 2) cap' (upd (upd ks n k) (n + 1) k') (upd (upd vs n v) (n + 1) v') ∧ Grew a w w' ∧ (a' = a ∨ a' = some ⟨w.heap.size, 0, none⟩) := by
  obtain ⟨c, ho, hc⟩ := h
  have ho1 : u1.oneCell' = true := by rw [hop.2.1]; rfl
  have ho2 : u2.oneCell' = true := by obtain ⟨_, _, ad, la, ca, f, rfl, _⟩ := hop; rfl
  have ho3 : u3.oneCell' = true := by rw [hop'.2.1]; rfl
  have ho4 : u4.oneCell' = true := by obtain ⟨_, _, ad, la, ca, f, rfl, _⟩ := hop'; rfl
  obtain ⟨a', cap', w', c', hr, ho', e1, e2, hg, ha⟩ := app_own2 w B a n cap c ho g 2 [u1, u2, u3, u4] rfl (by decide) (by decide) (fun j u hj => by
    match j, hj with
    | 0, hj => simp at hj; subst hj; exact c1
    | 1, hj => simp at hj; subst hj; exact c2
    | 2, hj => simp at hj; subst hj; exact c3
    | 3, hj => simp at hj; subst hj; exact c4) (fun u hu => by simp at hu; rcases hu with rfl | rfl | rfl | rfl <;> assumption) hn hB
  refine ⟨a', cap', w', hr, ⟨c', ho', fun i hi => ?_⟩, hg, ha⟩
  have q1 := e2 0 u1 rfl
  have q2 := e2 1 u2 rfl
  have q3 := e2 2 u3 rfl
  have q4 := e2 3 u4 rfl
  rw [Nat.add_zero] at q1
  by_cases e : i = n + 1
  · subst e
    rw [upd_at, upd_at, show 2 * (n + 1) = 2 * n + 2 by omega, q3, q4]; exact hop'.grew hg ha
  · rw [upd_ne _ _ e, upd_ne _ _ e]
    by_cases e' : i = n
    · subst e'
      rw [upd_at, upd_at, q1, q2]; exact hop.grew hg ha
    · rw [upd_ne _ _ e', upd_ne _ _ e', e1 _ (by omega), e1 _ (by omega)]
      exact (hc i (by omega)).grew hg ha

/-- A script that can be read. -/
def Scr (w : World) (a : Option Addr) (n : Nat) (ks vs : Nat → Nat) : Prop :=
  ∀ i, i < n → ∃ b ad la ca f, a = some ⟨b, 0, none⟩ ∧ w.cell? ⟨b, 2 * i, none⟩ = some (.int .u8 (ks i)) ∧ w.cell? ⟨b, 2 * i + 1, none⟩ = some (.slice ad la ca) ∧ (ks i = 0 ∨ ks i = 1 ∨ ks i = 4) ∧
    Sl w ad la f ∧ Byt f ∧ la ≤ ca ∧ ca ≤ 9223372036854775807 ∧ la ≤ 512 ∧ val f la = vs i
theorem Scr.keep {w w' : World} {a : Option Addr} {n : Nat} {ks vs : Nat → Nat} (h : Scr w a n ks vs) (hb : Below w.heap.size w w') : Scr w' a n ks vs := fun i hi => by
  obtain ⟨b, ad, la, ca, f, h1, h2, h3, h4, h5, h6⟩ := h i hi
  exact ⟨b, ad, la, ca, f, h1, (hb.cell (World.block_lt_of_cell? _ _ h2)).trans h2, (hb.cell (World.block_lt_of_cell? _ _ h3)).trans h3, h4, h5.keep hb, h6⟩
theorem Scr.len {w : World} {a : Option Addr} {n : Nat} {ks vs : Nat → Nat} (h : Scr w a n ks vs) : ∀ i, i < n → dlen (vs i) ≤ 512 := fun i hi => by
  obtain ⟨b, ad, la, ca, f, h1, h2, h3, h4, h5, h6, h7, h8, h9, h10⟩ := h i hi
  rw [← h10]; exact Nat.le_trans (dlen_val_le h6 la) h9
theorem SOwn.scr {w : World} {B : Nat} {a : Option Addr} {n cap : Nat} {ks vs : Nat → Nat} (h : SOwn w B a n cap ks vs) : Scr w a n ks vs := fun i hi => by
  obtain ⟨c, ho, hc⟩ := h
  obtain ⟨b, e, _, _, r⟩ := ho.row (by omega)
  obtain ⟨h1, h2, ad, la, ca, f, h3, h4, h5, h6, h7, h8, h9, h10, h11⟩ := hc i hi
  have q1 := r (2 * i) (by omega)
  have q2 := r (2 * i + 1) (by omega)
  rw [Nat.zero_add] at q1 q2
  exact ⟨b, ad, la, ca, f, e, by rw [q1, h2], by rw [q2, h3], h1, h4, h5, h6, h7, h8, h9⟩
end Go.Proofs.Ygctai
