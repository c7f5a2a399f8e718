/-
  calc: the machine: put, push, replace, multiply.
-/
import Derived.Test.YgctaiQA
import Derived.Test.YgctaiPcs
namespace Go.Proofs.Ygctai
open Go.RowKit
set_option linter.unusedVariables false


/-! ### the plain machine -/
/-- n entries, S 0 .. S (n - 1), the top one last; o times -2 put out. -/
structure Ms where
  n : Nat
  S : Nat → Nat
  o : Nat
def stp (k v : Nat) (s : Ms) : Ms :=
  if k = 0 then (if s.n < 16 then ⟨s.n + 1, upd s.S s.n v, s.o⟩ else ⟨s.n, s.S, s.o + 1⟩)
  else if k = 4 then (if 1 ≤ s.n ∧ dlen (s.S (s.n - 1)) ≤ 512 then ⟨s.n, upd s.S (s.n - 1) (s.S (s.n - 1) * s.S (s.n - 1)), s.o⟩ else ⟨s.n, s.S, s.o + 1⟩)
  else (if 2 ≤ s.n ∧ dlen (s.S (s.n - 2)) ≤ 512 ∧ dlen (s.S (s.n - 1)) ≤ 512 then ⟨s.n - 1, upd s.S (s.n - 2) (s.S (s.n - 2) * s.S (s.n - 1)), s.o⟩ else ⟨s.n, s.S, s.o + 1⟩)

/-! ### apart -/
def Apt (a c : Option Addr) : Prop := ∀ b o x o' x', a = some ⟨b, o, x⟩ → c ≠ some ⟨b, o', x'⟩
theorem Apt.symm {a c : Option Addr} (h : Apt a c) : Apt c a := fun b o x o' x' e1 e2 => h b o' x' o x e2 e1
theorem apt_none (c : Option Addr) : Apt none c := fun b o x o' x' e => by cases e
def Lo (H : Nat) (a : Option Addr) : Prop := ∀ b o x, a = some ⟨b, o, x⟩ → b < H
theorem Lo.mono {H H' : Nat} {a : Option Addr} (h : Lo H a) (hH : H ≤ H') : Lo H' a := fun b o x e => Nat.lt_of_lt_of_le (h b o x e) hH
theorem lo_some {H b o : Nat} (h : b < H) : Lo H (some ⟨b, o, none⟩) := fun b' o' x e => by injection e with e; injection e with e; omega
theorem Nt.hi {w : World} {B : Nat} {a : Option Addr} {N : Nat} (h : Nt w B a N) : ∀ b o x, a = some ⟨b, o, x⟩ → B ≤ b := fun b o x e => by
  rcases Nat.eq_zero_or_pos N with h0 | h0
  · rw [h.1 h0] at e; cases e
  · obtain ⟨b', o', e', hB, _⟩ := h.2 h0
    rw [e'] at e
    injection e with e; injection e with e; omega
theorem Nt.lo {w : World} {B : Nat} {a : Option Addr} {N : Nat} (h : Nt w B a N) : Lo w.heap.size a := fun b o x e => by
  rcases Nat.eq_zero_or_pos N with h0 | h0
  · rw [h.1 h0] at e; cases e
  · obtain ⟨b', o', e', hB, r, _⟩ := h.2 h0
    have := r.block_lt (dlen_pos h0)
    rw [e'] at e
    injection e with e; injection e with e; omega
theorem Lo.apt {H : Nat} {a d : Option Addr} (h : Lo H a) (hd : ∀ b o x, d = some ⟨b, o, x⟩ → H ≤ b) : Apt a d := fun b o x o' x' e1 e2 => by
  have := h b o x e1
  have := hd b o' x' e2
  omega
theorem Own.grew {x : Option Addr} {w w' : World} {B : Nat} {a : Option Addr} {n cap : Nat} {c : Nat → Value} (h : Own w B a n cap c) (hg : Grew x w w') (ha : Apt x a) : Own w' B a n cap c := by
  obtain ⟨h1, ⟨rfl, rfl⟩ | ⟨b, rfl, hB, hl, r, f⟩⟩ := h
  · exact ⟨h1, .inl ⟨rfl, rfl⟩⟩
  · have hne : x ≠ some ⟨b, 0, none⟩ := fun e => ha b 0 none 0 none e rfl
    exact ⟨h1, .inr ⟨b, rfl, hB, Nat.lt_of_lt_of_le hl hg.size, r.grew hg hne, f.grew hg hl hne⟩⟩
theorem Own.less {w : World} {B : Nat} {a : Option Addr} {n m cap : Nat} {c : Nat → Value} (h : Own w B a n cap c) (hm : m ≤ n) : Own w B a m cap c := by
  obtain ⟨h1, h⟩ := h
  exact ⟨by omega, h⟩
theorem Own.lo {w : World} {B : Nat} {a : Option Addr} {n cap : Nat} {c : Nat → Value} (h : Own w B a n cap c) : Lo w.heap.size a := fun b o x e => by
  obtain ⟨h1, ⟨rfl, rfl⟩ | ⟨b, rfl, hB, hl, r, f⟩⟩ := h
  · cases e
  · injection e with e; injection e with e; omega
theorem Own.hi {w : World} {B : Nat} {a : Option Addr} {n cap : Nat} {c : Nat → Value} (h : Own w B a n cap c) : ∀ b o x, a = some ⟨b, o, x⟩ → B ≤ b := fun b o x e => by
  obtain ⟨h1, ⟨rfl, rfl⟩ | ⟨b, rfl, hB, hl, r, f⟩⟩ := h
  · cases e
  · injection e with e; injection e with e; omega
theorem Nt.grew' {x : Option Addr} {w w' : World} {B : Nat} {d : Option Addr} {N : Nat} (h : Nt w B d N) (hg : Grew x w w') (ha : Apt x d) : Nt w' B d N :=
  h.grew hg (fun b o y e => ha b 0 none o y e)
theorem cell_grew {x : Option Addr} {w w' : World} {b o : Nat} {v : Value} (h : w.cell? ⟨b, o, none⟩ = some v) (hg : Grew x w w') (ha : x ≠ some ⟨b, 0, none⟩) : w'.cell? ⟨b, o, none⟩ = some v := by
  have hl := World.block_lt_of_cell? _ _ h
  rw [World.cell?_of_block (w := w) (hg.block b hl ha)]; exact h
theorem grew_set (w : World) (b o : Nat) (v : Value) : Grew (some ⟨b, 0, none⟩) w (w.setCell ⟨b, o, none⟩ v) :=
  ⟨rfl, rfl, rfl, by simp, fun k hk hne => Below.heap_setCell _ _ _ _ (fun h => hne (by rw [h]))⟩
theorem Grew.of_below {x : Option Addr} {w w' : World} (h : Below w.heap.size w w') : Grew x w w' := ⟨h.os, h.tape, h.output, h.size, fun k hk _ => h.block k hk⟩

/-! ### the machine in memory -/
/-- The machine in block mb, stack (a, cap) of the entries ad i, and what was put out (o, oc): all in blocks from B on and below H, pairwise apart. -/
structure Mcx (w : World) (B H mb n : Nat) (S : Nat → Nat) (k : Nat) (a : Option Addr) (cap : Nat) (o : Option Addr) (oc : Nat) (ad : Nat → Option Addr) : Prop where
  hB : B ≤ mb
  hm : mb < H
  hH : H ≤ w.heap.size
  c0 : w.cell? ⟨mb, 0, none⟩ = some (.slice a n cap)
  c1 : w.cell? ⟨mb, 1, none⟩ = some (.slice o k oc)
  fr : Free w mb 0 2
  st : ∃ c, Own w B a n cap c ∧ ∀ i, i < n → c i = .slice (ad i) (dlen (S i)) (dlen (S i))
  ot : ∃ c, Own w B o k oc c ∧ ∀ i, i < k → c i = .int .i8 (-2)
  en : ∀ i, i < n → Nt w B (ad i) (S i)
  la : Lo H a
  lo : Lo H o
  le : ∀ i, i < n → Lo H (ad i)
  ma : Apt (some ⟨mb, 0, none⟩) a
  mo : Apt (some ⟨mb, 0, none⟩) o
  me : ∀ i, i < n → Apt (some ⟨mb, 0, none⟩) (ad i)
  ao : Apt a o
  ae : ∀ i, i < n → Apt a (ad i)
  oe : ∀ i, i < n → Apt o (ad i)
  ee : ∀ i j, i < n → j < n → i ≠ j → Apt (ad i) (ad j)
/-- The machine in block mb, all of it below H. -/
def Mch (w : World) (B H mb : Nat) (s : Ms) : Prop := ∃ a cap o oc ad, Mcx w B H mb s.n s.S s.o a cap o oc ad
/-- The machine in block mb. -/
def Mc (w : World) (B mb : Nat) (s : Ms) : Prop := Mch w B w.heap.size mb s

theorem Mcx.keep {w w' : World} {B H mb n : Nat} {S : Nat → Nat} {k : Nat} {a : Option Addr} {cap : Nat} {o : Option Addr} {oc : Nat} {ad : Nat → Option Addr}
    (h : Mcx w B H mb n S k a cap o oc ad) (hb : Below w.heap.size w w') : Mcx w' B H mb n S k a cap o oc ad := by
  have hm := h.hm
  have hH := h.hH
  obtain ⟨c, s1, s2⟩ := h.st
  obtain ⟨c', o1, o2⟩ := h.ot
  exact { h with
    hH := Nat.le_trans h.hH hb.size
    c0 := by rw [hb.cell (show mb < w.heap.size by omega)]; exact h.c0
    c1 := by rw [hb.cell (show mb < w.heap.size by omega)]; exact h.c1
    fr := h.fr.below hb (by omega)
    st := ⟨c, s1.keep hb, s2⟩
    ot := ⟨c', o1.keep hb, o2⟩
    en := fun i hi => (h.en i hi).keep hb }
/-- up to any H. -/
theorem Mcx.up {w : World} {B H H' mb n : Nat} {S : Nat → Nat} {k : Nat} {a : Option Addr} {cap : Nat} {o : Option Addr} {oc : Nat} {ad : Nat → Option Addr}
    (h : Mcx w B H mb n S k a cap o oc ad) (h1 : H ≤ H') (h2 : H' ≤ w.heap.size) : Mcx w B H' mb n S k a cap o oc ad :=
  { h with hm := Nat.lt_of_lt_of_le h.hm h1, hH := h2, la := h.la.mono h1, lo := h.lo.mono h1, le := fun i hi => (h.le i hi).mono h1 }
theorem Mch.keep {w w' : World} {B H mb : Nat} {s : Ms} (h : Mch w B H mb s) (hb : Below w.heap.size w w') : Mch w' B H mb s := by
  obtain ⟨a, cap, o, oc, ad, h⟩ := h
  exact ⟨a, cap, o, oc, ad, h.keep hb⟩
theorem Mch.up {w : World} {B H mb : Nat} {s : Ms} (h : Mch w B H mb s) (hH : H ≤ w.heap.size) : Mc w B mb s := by
  obtain ⟨a, cap, o, oc, ad, h⟩ := h
  exact ⟨a, cap, o, oc, ad, h.up hH (Nat.le_refl _)⟩
theorem Mc.keep {w w' : World} {B mb : Nat} {s : Ms} (h : Mc w B mb s) (hb : Below w.heap.size w w') : Mc w' B mb s := by
  obtain ⟨a, cap, o, oc, ad, h⟩ := h
  exact ⟨a, cap, o, oc, ad, (h.keep hb).up hb.size (Nat.le_refl _)⟩

theorem apt_grown {H M : Nat} {o o' y : Option Addr} (ha : o' = o ∨ o' = some ⟨M, 0, none⟩) (hH : H ≤ M) (hy : Lo H y) (h : Apt o y) : Apt o' y := by
  rcases ha with rfl | rfl
  · exact h
  · intro b q x q' x' e1 e2
    injection e1 with e1; injection e1 with e1
    have := hy b q' x' e2
    omega

/-- What was put out has grown by a -2. -/
theorem Mcx.put {w w' : World} {B H mb n : Nat} {S : Nat → Nat} {k : Nat} {a : Option Addr} {cap : Nat} {o : Option Addr} {oc : Nat} {ad : Nat → Option Addr} {o' : Option Addr} {oc' : Nat} {c' : Nat → Value}
    (h : Mcx w B H mb n S k a cap o oc ad) (hg : Grew o w w') (ho : Own w' B o' (k + 1) oc' c') (hc : ∀ i, i < k + 1 → c' i = .int .i8 (-2)) (ha : o' = o ∨ o' = some ⟨w.heap.size, 0, none⟩) :
    Mcx (w'.setCell ⟨mb, 1, none⟩ (.slice o' (k + 1) oc')) B w'.heap.size mb n S (k + 1) a cap o' oc' ad := by
  have hm := h.hm
  have hH := h.hH
  have hs := hg.size
  obtain ⟨c, s1, s2⟩ := h.st
  have hne : o ≠ some ⟨mb, 0, none⟩ := fun e => h.mo mb 0 none 0 none rfl e
  have g2 := grew_set w' mb 1 (.slice o' (k + 1) oc')
  have mo' : Apt (some ⟨mb, 0, none⟩) o' := (apt_grown ha hH (lo_some h.hm) h.mo.symm).symm
  refine { hB := h.hB, hm := by omega, hH := by simp, c0 := ?_, c1 := ?_, fr := (h.fr.grew hg (by omega) hne).setCell _ _, st := ⟨c, (s1.grew hg h.ao.symm).grew g2 h.ma, s2⟩, ot := ⟨c', ho.grew g2 mo', hc⟩
           en := fun i hi => ((h.en i hi).grew' hg (h.oe i hi)).grew' g2 (h.me i hi), la := h.la.mono (by omega), lo := ho.lo, le := fun i hi => (h.le i hi).mono (by omega)
           ma := h.ma, mo := mo', me := h.me, ao := (apt_grown ha hH h.la h.ao.symm).symm, ae := h.ae, oe := fun i hi => apt_grown ha hH (h.le i hi) (h.oe i hi), ee := h.ee }
  · rw [World.cell?_setCell_other _ _ _ _ (by simp)]
    exact cell_grew h.c0 hg hne
  · exact World.cell?_setCell_same _ _ _ (cell_grew h.c1 hg hne)
/-- The stack has got one more entry. -/
theorem Mcx.push {w w' : World} {B H mb n : Nat} {S : Nat → Nat} {k : Nat} {a : Option Addr} {cap : Nat} {o : Option Addr} {oc : Nat} {ad : Nat → Option Addr} {a' : Option Addr} {cap' : Nat} {c' : Nat → Value} {d : Option Addr} {N : Nat}
    (h : Mcx w B H mb n S k a cap o oc ad) (hd : Nt w H d N) (hg : Grew a w w') (ho : Own w' B a' (n + 1) cap' c') (hc : ∀ i, i < n → c' i = .slice (ad i) (dlen (S i)) (dlen (S i))) (hcn : c' n = .slice d (dlen N) (dlen N)) (ha : a' = a ∨ a' = some ⟨w.heap.size, 0, none⟩) :
    Mcx (w'.setCell ⟨mb, 0, none⟩ (.slice a' (n + 1) cap')) B w'.heap.size mb (n + 1) (upd S n N) k a' cap' o oc (upd ad n d) := by
  have hm := h.hm
  have hH := h.hH
  have hs := hg.size
  have hB := h.hB
  obtain ⟨c, o1, o2⟩ := h.ot
  have hne : a ≠ some ⟨mb, 0, none⟩ := fun e => h.ma mb 0 none 0 none rfl e
  have g2 := grew_set w' mb 0 (.slice a' (n + 1) cap')
  have ma' : Apt (some ⟨mb, 0, none⟩) a' := (apt_grown ha hH (lo_some h.hm) h.ma.symm).symm
  have ad' : ∀ i, i < n + 1 → Apt a' (upd ad n d i) := fun i hi => by
    by_cases e : i = n
    · subst e
      rw [upd_at]
      exact apt_grown ha (Nat.le_refl _) hd.lo (h.la.apt hd.hi)
    · rw [upd_ne _ _ e]
      exact apt_grown ha hH (h.le i (by omega)) (h.ae i (by omega))
  have hdB := hd.mono (show B ≤ H by omega)
  refine { hB := h.hB, hm := by omega, hH := by simp, c0 := ?_, c1 := ?_, fr := (h.fr.grew hg (by omega) hne).setCell _ _, st := ⟨c', ho.grew g2 ma', ?_⟩, ot := ⟨c, (o1.grew hg h.ao).grew g2 h.mo, o2⟩
           en := ?_, la := ho.lo, lo := h.lo.mono (by omega), le := ?_, ma := ma', mo := h.mo, me := ?_, ao := apt_grown ha hH h.lo h.ao, ae := ad', oe := ?_, ee := ?_ }
  · exact World.cell?_setCell_same _ _ _ (cell_grew h.c0 hg hne)
  · rw [World.cell?_setCell_other _ _ _ _ (by simp)]
    exact cell_grew h.c1 hg hne
  · intro i hi
    by_cases e : i = n
    · subst e; rw [upd_at, upd_at, hcn]
    · rw [upd_ne _ _ e, upd_ne _ _ e]; exact hc i (by omega)
  · intro i hi
    by_cases e : i = n
    · subst e; rw [upd_at, upd_at]
      exact (hdB.grew' hg (h.la.apt hd.hi)).grew' g2 ((lo_some h.hm).apt hd.hi)
    · rw [upd_ne _ _ e, upd_ne _ _ e]
      exact ((h.en i (by omega)).grew' hg (h.ae i (by omega))).grew' g2 (h.me i (by omega))
  · intro i hi
    by_cases e : i = n
    · subst e; rw [upd_at]; exact hd.lo.mono hs
    · rw [upd_ne _ _ e]; exact (h.le i (by omega)).mono (by omega)
  · intro i hi
    by_cases e : i = n
    · subst e; rw [upd_at]; exact (lo_some h.hm).apt hd.hi
    · rw [upd_ne _ _ e]; exact h.me i (by omega)
  · intro i hi
    by_cases e : i = n
    · subst e; rw [upd_at]; exact h.lo.apt hd.hi
    · rw [upd_ne _ _ e]; exact h.oe i (by omega)
  · intro i j hi hj hij
    by_cases e : i = n
    · subst e
      rw [upd_at, upd_ne _ _ (by omega)]
      exact ((h.le j (by omega)).apt hd.hi).symm
    · by_cases e' : j = n
      · subst e'
        rw [upd_at, upd_ne _ _ e]
        exact (h.le i (by omega)).apt hd.hi
      · rw [upd_ne _ _ e, upd_ne _ _ e']
        exact h.ee i j (by omega) (by omega) hij
/-- The stack has lost its top. -/
theorem Mcx.drop {w : World} {B H mb n m : Nat} {S : Nat → Nat} {k : Nat} {a : Option Addr} {cap : Nat} {o : Option Addr} {oc : Nat} {ad : Nat → Option Addr}
    (h : Mcx w B H mb n S k a cap o oc ad) (hn : m ≤ n) : Mcx (w.setCell ⟨mb, 0, none⟩ (.slice a m cap)) B H mb m S k a cap o oc ad := by
  have g2 := grew_set w mb 0 (.slice a m cap)
  obtain ⟨c, s1, s2⟩ := h.st
  obtain ⟨c', o1, o2⟩ := h.ot
  exact { hB := h.hB, hm := h.hm, hH := by simpa using h.hH
          c0 := World.cell?_setCell_same _ _ _ h.c0
          c1 := by rw [World.cell?_setCell_other _ _ _ _ (by simp)]; exact h.c1
          fr := h.fr.setCell _ _, st := ⟨c, (s1.less hn).grew g2 h.ma, fun i hi => s2 i (by omega)⟩, ot := ⟨c', o1.grew g2 h.mo, o2⟩
          en := fun i hi => (h.en i (by omega)).grew' g2 (h.me i (by omega)), la := h.la, lo := h.lo, le := fun i hi => h.le i (by omega)
          ma := h.ma, mo := h.mo, me := fun i hi => h.me i (by omega), ao := h.ao, ae := fun i hi => h.ae i (by omega), oe := fun i hi => h.oe i (by omega)
          ee := fun i j hi hj => h.ee i j (by omega) (by omega) }

theorem Taig.info46 : (Taig.prog.info? 46).map (fun i => (i.zero, i.size, i.bytes)) = some (some (.int .i8 0), 1, 1) := by kernel_rfl

set_option maxRecDepth 100000 in
set_option maxHeartbeats 400000 in
/-- Machine.put. -/
theorem put_any (B mb n : Nat) (S : Nat → Nat) (k : Nat) (w : World) (h : Mc w B mb ⟨n, S, k⟩) (hk : k ≤ 1048576) :
    Calls Taig.prog 116 #[.pointer (some ⟨mb, 0, none⟩), .int .i8 (-2)] w fun e w' => e = .returned (.tuple #[]) ∧ Mc w' B mb ⟨n, S, k + 1⟩ ∧ Below B w w' := by
  obtain ⟨a, cap, o, oc, ad, hx⟩ := h
  have h : Mcx w B _ mb n S k a cap o oc ad := hx
  clear hx
  have HH := hide h
  have hB := h.hB
  have hm := h.hm
  have c1 := h.c1
  obtain ⟨c, ho, hc⟩ := h.ot
  have hba := below_alloc w (.cells #[.int .i8 (-2)] 46)
  obtain ⟨o', oc', w2, c', hr, ho', hc1, hc2, hg, ha⟩ := app_own 78 78 46 (.int .i8 0) 1 Taig.underlying78 Taig.info46 rfl (w.alloc (.cells #[.int .i8 (-2)] 46)) B o k oc c (ho.keep hba) w.heap.size _ (by rw [World.cell?_alloc_at _ _ _ _ rfl]; rfl) rfl hk (by omega) (by simp; omega)
  clear h
  have hg' := hg
  have h1 := (unhide HH).keep hba
  have f2 : w2.frozen? ⟨mb, 1, none⟩ = false := by
    have := h1.fr.grew hg (by simp; omega) (fun e => h1.mo mb 0 none 0 none rfl e)
    exact this.all (by decide) 1
  have d2 : w2.cell? ⟨mb, 1, none⟩ = some (.slice o k oc) := cell_grew h1.c1 hg (fun e => h1.mo mb 0 none 0 none rfl e)
  go_enter Taig.func116, Taig.ntmps116
  go_wp2_with (at_builtin; refine wpList_append_run rfl _ _ 78 rfl _ _ _ rfl rfl hr ?_)
  go_end0
  have hx := h1.put hg ho' (fun i hi => by
    by_cases e : i = k
    · subst e; exact hc2
    · rw [hc1 i (by omega)]; exact hc i (by omega)) ha
  refine ⟨rfl, ⟨a, cap, o', oc', ad, by simpa using hx⟩, ?_⟩
  have hbB : Below B w (w.alloc (.cells #[.int .i8 (-2)] 46)) := hba.mono (by omega)
  have b2 := hg.below hbB (by simp; omega) (fun j hj e => by have := ho.hi j 0 none e; omega)
  exact b2.setCell hB _

set_option maxRecDepth 100000 in
set_option maxHeartbeats 400000 in
/-- Machine.push. -/
theorem push_any (B H mb n : Nat) (S : Nat → Nat) (k : Nat) (d : Option Addr) (N : Nat) (w : World) (h : Mch w B H mb ⟨n, S, k⟩) (hd : Nt w H d N) (hn : n ≤ 1048576) :
    Calls Taig.prog 117 #[.pointer (some ⟨mb, 0, none⟩), .slice d (dlen N) (dlen N)] w fun e w' => e = .returned (.tuple #[]) ∧ Mc w' B mb ⟨n + 1, upd S n N, k⟩ ∧ Below B w w' := by
  obtain ⟨a, cap, o, oc, ad, hx⟩ := h
  have h : Mcx w B _ mb n S k a cap o oc ad := hx
  clear hx
  have HH := hide h
  have hB := h.hB
  have hm := h.hm
  have hH := h.hH
  have c0 := h.c0
  obtain ⟨c, ho, hc⟩ := h.st
  have hba := below_alloc w (.cells #[.slice d (dlen N) (dlen N)] 23)
  obtain ⟨a', cap', w2, c', hr, ho', hc1, hc2, hg, ha⟩ := app_own 66 66 23 (.slice none 0 0) 24 Taig.underlying66 Taig.info23 rfl (w.alloc (.cells #[.slice d (dlen N) (dlen N)] 23)) B a n cap c (ho.keep hba) w.heap.size _ (by rw [World.cell?_alloc_at _ _ _ _ rfl]; rfl) rfl hn (by omega) (by simp; omega)
  clear h
  have h1 := (unhide HH).keep hba
  have f2 : w2.frozen? ⟨mb, 0, none⟩ = false := by
    have := h1.fr.grew hg (by simp; omega) (fun e => h1.ma mb 0 none 0 none rfl e)
    exact this.all (by decide) 0
  have d2 : w2.cell? ⟨mb, 0, none⟩ = some (.slice a n cap) := cell_grew h1.c0 hg (fun e => h1.ma mb 0 none 0 none rfl e)
  go_enter Taig.func117, Taig.ntmps117
  go_wp2_with (at_builtin; refine wpList_append_run rfl _ _ 66 rfl _ _ _ rfl rfl hr ?_)
  go_end0
  have hx := h1.push (hd.keep hba) hg ho' (fun i hi => by rw [hc1 i hi]; exact hc i hi) hc2 ha
  refine ⟨rfl, ⟨a', cap', o, oc, upd ad n d, by simpa using hx⟩, ?_⟩
  have hbB : Below B w (w.alloc (.cells #[.slice d (dlen N) (dlen N)] 23)) := hba.mono (by omega)
  have b2 := hg.below hbB (by simp; omega) (fun j hj e => by have := ho.hi j 0 none e; omega)
  exact b2.setCell hB _

set_option maxRecDepth 100000 in
set_option maxHeartbeats 1000000 in
/-- Machine.replace. -/
theorem replace_any (B H mb n count : Nat) (S : Nat → Nat) (k : Nat) (d : Option Addr) (N : Nat) (w : World) (h : Mch w B H mb ⟨n, S, k⟩) (hd : Nt w H d N) (hn : n ≤ 16) (h0 : 0 < count) (h1 : count ≤ n) :
    Calls Taig.prog 122 #[.pointer (some ⟨mb, 0, none⟩), .int .i64 (count : Int), .slice d (dlen N) (dlen N)] w fun e w' => e = .returned (.tuple #[]) ∧ Mc w' B mb ⟨n - count + 1, upd S (n - count) N, k⟩ ∧ Below B w w' := by
  obtain ⟨a, cap, o, oc, ad, hx⟩ := h
  have h : Mcx w B _ mb n S k a cap o oc ad := hx
  clear hx
  have HH := hide h
  have hB := h.hB
  have hm := h.hm
  have hH := h.hH
  have c0 := h.c0
  have f0 := h.fr.all (by decide) 0
  obtain ⟨c, ho, hc⟩ := h.st
  have hle := ho.le
  obtain ⟨b, rfl, hbB, r⟩ := ho.row (by omega)
  clear h ho
  have e1 : IntKind.i64.wrap ((n : Int) - (count : Int)) = ((n - count : Nat) : Int) := by simp only [IntKind.wrap_i64]; omega
  have e2 : ((n - count : Nat) : Int) ≤ (cap : Int) := by omega
  go_enter Taig.func122, Taig.ntmps122
  go_wp2
  go_region
  have h2 : Mch ((w.setCell ⟨mb, 0, none⟩ (.slice (some ⟨b, 0, none⟩) (n - count) cap)).drew) B H mb ⟨n - count, S, k⟩ := ⟨_, _, _, _, _, ((unhide HH).drop (m := n - count) (by omega)).keep ((Below.refl _ _).drew)⟩
  have hd2 : Nt ((w.setCell ⟨mb, 0, none⟩ (.slice (some ⟨b, 0, none⟩) (n - count) cap)).drew) H d N := (hd.grew' (grew_set w mb 0 _) ((lo_some hm).apt hd.hi)).drew
  have hb2 : Below B w ((w.setCell ⟨mb, 0, none⟩ (.slice (some ⟨b, 0, none⟩) (n - count) cap)).drew) := (((Below.refl B w).setCell hB _).drew)
  have HK := hide (push_any B H mb (n - count) S k d N _ h2 hd2 (by omega))
  clear h2 hd2 e1 e2
  go_wp2_with fail
  refine (unhide HK).mono ?_
  rintro e w' ⟨rfl, hmc, hb⟩
  go_wp2
  go_end0
  exact ⟨rfl, hmc, hb2.trans hb⟩

set_option maxRecDepth 100000 in
set_option maxHeartbeats 1000000 in
/-- Machine.multiply, refused. -/
theorem multiply_no (E B mb n count : Nat) (S : Nat → Nat) (k : Nat) (a b : Option Addr) (M N : Nat) (w : World) (h : Mc w B mb ⟨n, S, k⟩) (hk : k ≤ 1048576) (hno : 512 < dlen M ∨ 512 < dlen N) (l1 : dlen M ≤ 1024) (l2 : dlen N ≤ 1024) :
    Calls Taig.prog 120 #[.pointer (some ⟨mb, 0, none⟩), .int .u8 (E : Int), .int .i64 (count : Int), .slice a (dlen M) (dlen M), .slice b (dlen N) (dlen N)] w fun e w' => e = .returned (.tuple #[]) ∧ Mc w' B mb ⟨n, S, k + 1⟩ ∧ Below B w w' := by
  have K := hide (put_any B mb n S k w h hk)
  clear h
  generalize dlen M = x at *
  generalize dlen N = y at *
  by_cases c : 512 < x
  · clear hno
    go_enter Taig.func120, Taig.ntmps120
    go_wp2_with fail
    refine (unhide K).mono ?_
    rintro e w' ⟨rfl, hmc, hb⟩
    go_wp2
    ((try simp only [Exit.inBlock, Exit.then]); refine bodyPost_ret (results_none rfl _ _ _) rfl ?_)
    exact ⟨rfl, hmc, hb⟩
  · have c2 : 512 < y := by omega
    clear hno
    go_enter Taig.func120, Taig.ntmps120
    go_wp2_with fail
    refine (unhide K).mono ?_
    rintro e w' ⟨rfl, hmc, hb⟩
    go_wp2
    ((try simp only [Exit.inBlock, Exit.then]); refine bodyPost_ret (results_none rfl _ _ _) rfl ?_)
    exact ⟨rfl, hmc, hb⟩

set_option maxRecDepth 100000 in
set_option maxHeartbeats 1000000 in
/-- Machine.multiply. -/
theorem multiply_any (E B mb n count : Nat) (S : Nat → Nat) (k : Nat) (a b : Option Addr) (M N : Nat) (w : World) (h : Mc w B mb ⟨n, S, k⟩) (hE : E < 4) (ha : Nt w 0 a M) (hb : Nt w 0 b N) (l1 : dlen M ≤ 512) (l2 : dlen N ≤ 512) (hn : n ≤ 16) (h0 : 0 < count) (h1 : count ≤ n) (hB : B ≤ w.heap.size) :
    Calls Taig.prog 120 #[.pointer (some ⟨mb, 0, none⟩), .int .u8 (E : Int), .int .i64 (count : Int), .slice a (dlen M) (dlen M), .slice b (dlen N) (dlen N)] w fun e w' => e = .returned (.tuple #[]) ∧ Mc w' B mb ⟨n - count + 1, upd S (n - count) (M * N), k⟩ ∧ Below B w w' := by
  have K := hide (product_any E a b M N w hE ha hb l1 l2)
  have L : ∀ d w', Nt w' w.heap.size d (M * N) → Below w.heap.size w w' → _ := fun d w' hd hbe => replace_any B w.heap.size mb n count S k d (M * N) w' (h.keep hbe |> fun _ => Mch.keep h hbe) hd hn h0 h1
  have HL := hide L
  clear L h ha hb
  generalize dlen M = x at *
  generalize dlen N = y at *
  go_enter Taig.func120, Taig.ntmps120
  go_wp2_with fail
  refine (unhide K).mono ?_
  rintro e w' ⟨d, rfl, hd, hbe⟩
  go_wp2_with fail
  refine (unhide HL d w' hd hbe).mono ?_
  rintro e w'' ⟨rfl, hmc, hb2⟩
  go_wp2
  go_end0
  exact ⟨rfl, hmc, (hbe.mono hB).trans hb2⟩
end Go.Proofs.Ygctai
