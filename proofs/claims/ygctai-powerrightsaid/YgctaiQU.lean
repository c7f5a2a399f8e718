/-
  calc: Run.
-/
import Derived.Test.YgctaiQH
import Derived.Test.YgctaiQQ
namespace Go.Proofs.Ygctai
open Go.RowKit
set_option linter.unusedVariables false

theorem step_any (E k v : Nat) (a : Option Addr) (la ca : Nat) (f : Nat → Nat) (B mb : Nat) (s : Ms) (w : World) (hE : E < 4) (h : Mc w B mb s) (hn : s.n ≤ 16) (ho : s.o ≤ 1024) (hl : ∀ i, i < s.n → dlen (s.S i) ≤ 1024)
    (hs : Sl w a la f) (hf : Byt f) (h1 : la ≤ ca) (h2 : ca ≤ 9223372036854775807) (h3 : la ≤ 512) (hk : k = 0 ∨ k = 1 ∨ k = 4) (hv : val f la = v) :
    Calls Taig.prog 97 #[.int .u8 (E : Int), .pointer (some ⟨mb, 0, none⟩), .agg #[.int .u8 (k : Int), .slice a la ca]] w fun e w' => e = .returned (.tuple #[]) ∧ Mc w' B mb (stp k v s) ∧ Below B w w' := by
  obtain ⟨n, S, o⟩ := s
  subst hv
  rcases hk with rfl | rfl | rfl
  · exact step_push E a la ca f B mb n S o w hE h hn ho hl hs hf h1 h2 h3
  · exact step_mul E _ a la ca B mb n S o w hE h hn ho hl
  · exact step_sqr E _ a la ca B mb n S o w hE h hn ho hl

/-- The empty machine. -/
theorem mc_new (w : World) : Mc (w.alloc (.cells #[.slice none 0 0, .slice none 0 0] 107)) w.heap.size w.heap.size ⟨0, fun _ => 0, 0⟩ := by
  have r : Row (w.alloc (.cells #[.slice none 0 0, .slice none 0 0] 107)) w.heap.size 0 2 (fun _ => .slice none 0 0) := row_new w _ 107 2 _ (fun i hi => by
    match i, hi with
    | 0, _ => rfl
    | 1, _ => rfl)
  have z : ∀ i : Nat, ¬ i < 0 := fun i => Nat.not_lt_zero i
  have f := free_new w #[.slice none 0 0, .slice none 0 0] 107 2
  have l : ∀ H, Lo H none := fun H b o x e => by cases e
  exact ⟨none, 0, none, 0, fun _ => none, { hB := Nat.le_refl _, hm := by simp, hH := Nat.le_refl _, c0 := r 0 (by decide), c1 := r 1 (by decide), fr := f, st := ⟨fun _ => .bool false, own_nil _ _ _, fun i hi => absurd hi (z i)⟩, ot := ⟨fun _ => .bool false, own_nil _ _ _, fun i hi => absurd hi (z i)⟩, en := fun i hi => absurd hi (z i), la := l _, lo := l _, le := fun i hi => absurd hi (z i), ma := (apt_none _).symm, mo := (apt_none _).symm, me := fun i hi => absurd hi (z i), ao := apt_none _, ae := fun i hi => absurd hi (z i), oe := fun i hi => absurd hi (z i), ee := fun i j hi => absurd hi (z i) }⟩

/-- What is at a round of Run's. -/
structure RuI (w wr : World) (M : Nat) (s : Ms) : Prop where
  b : Below M w wr
  hM : M + 2 ≤ wr.heap.size
  r : Row wr M 0 3 (oc3 (.slice none 0 0) (.slice none 0 0))
  fr : Free wr M 0 3
  mc : Mc wr (M + 1) (M + 1) s

theorem set3 {w wr : World} {M H n k : Nat} {a o : Option Addr} {S : Nat → Nat} {c : Nat → Value} (hr : Row wr M 0 3 c) (hp : ∃ ad, Pcx wr H a n S ad) (ho : Oup wr H o k) (hM : M + 2 ≤ H) (hb : Below M w wr) :
    (((wr.setCell ⟨M, 0, none⟩ (.bool false)).setCell ⟨M, 1, none⟩ (.slice a n n)).setCell ⟨M, 2, none⟩ (.slice o k k)).rangeAt M 0 [.bool false, .slice a n n, .slice o k k] ∧
    (∃ ad, Pcx (((wr.setCell ⟨M, 0, none⟩ (.bool false)).setCell ⟨M, 1, none⟩ (.slice a n n)).setCell ⟨M, 2, none⟩ (.slice o k k)) M a n S ad) ∧
    Oup (((wr.setCell ⟨M, 0, none⟩ (.bool false)).setCell ⟨M, 1, none⟩ (.slice a n n)).setCell ⟨M, 2, none⟩ (.slice o k k)) M o k ∧
    Below M w (((wr.setCell ⟨M, 0, none⟩ (.bool false)).setCell ⟨M, 1, none⟩ (.slice a n n)).setCell ⟨M, 2, none⟩ (.slice o k k)) := by
  obtain ⟨ad, hp⟩ := hp
  have r := ((hr.setCell (i := 0) (by decide) (.bool false)).setCell (i := 1) (by decide) (.slice a n n)).setCell (i := 2) (by decide) (.slice o k k)
  have g0 := grew_set wr M 0 (.bool false)
  have g1 := grew_set (wr.setCell ⟨M, 0, none⟩ (.bool false)) M 1 (.slice a n n)
  have g2 := grew_set ((wr.setCell ⟨M, 0, none⟩ (.bool false)).setCell ⟨M, 1, none⟩ (.slice a n n)) M 2 (.slice o k k)
  refine ⟨range_row r _ ?_, ⟨ad, (((hp.grew g0 (by omega)).grew g1 (by omega)).grew g2 (by omega)).mono (by omega)⟩, (((ho.grew g0 (by omega)).grew g1 (by omega)).grew g2 (by omega)).mono (by omega), ((hb.setCell (Nat.le_refl _) _).setCell (Nat.le_refl _) _).setCell (Nat.le_refl _) _⟩
  intro j v hj
  match j, hj with
  | 0, hj => injection hj with hj; exact ⟨by decide, by rw [← hj]; rfl⟩
  | 1, hj => injection hj with hj; exact ⟨by decide, by rw [← hj]; rfl⟩
  | 2, hj => injection hj with hj; exact ⟨by decide, by rw [← hj]; rfl⟩

set_option maxRecDepth 100000 in
set_option maxHeartbeats 1000000 in
theorem run_any (E : Nat) (a : Option Addr) (n cap : Nat) (ks vs : Nat → Nat) (w : World) (hE : E < 4) (h : Scr w a n ks vs) (hn : n ≤ 128) :
    Calls Taig.prog 68 #[.int .u8 (E : Int), .slice a n cap] w fun e w' => ∃ sa so, e = .returned (.agg #[.bool false, .slice sa (rn ks vs n).n (rn ks vs n).n, .slice so (rn ks vs n).o (rn ks vs n).o]) ∧ (∃ ad, Pcx w' w.heap.size sa (rn ks vs n).n (rn ks vs n).S ad) ∧ Oup w' w.heap.size so (rn ks vs n).o ∧ Below w.heap.size w w' := by
  have HS := hide h
  have HR := hide (rn_ok (N := n) (ks := ks) h.len)
  have e3 : ∀ i, i < 3 → (#[.bool false, .slice none 0 0, .slice none 0 0] : Array Value)[i]? = some (oc3 (.slice none 0 0) (.slice none 0 0) i) := fun i hi => by
    match i, hi with
    | 0, _ => rfl
    | 1, _ => rfl
    | 2, _ => rfl
  have r1 := row_new w _ 80 3 _ e3
  have f1 := free_new w #[.bool false, .slice none 0 0, .slice none 0 0] 80 3
  have hs : (w.alloc (.cells #[.bool false, .slice none 0 0, .slice none 0 0] 80)).heap.size = w.heap.size + 1 := by simp
  have m1 := mc_new (w.alloc (.cells #[.bool false, .slice none 0 0, .slice none 0 0] 80))
  rw [hs] at m1
  have I0 : Hid (RuI w ((w.alloc (.cells #[.bool false, .slice none 0 0, .slice none 0 0] 80)).alloc (.cells #[.slice none 0 0, .slice none 0 0] 107)) w.heap.size (rn ks vs 0)) :=
    ⟨((Below.refl _ _).alloc (Nat.le_refl _) _).alloc (by omega) _, by simp, r1.alloc _, f1.below (below_alloc _ _) (by omega), m1⟩
  clear r1 f1 m1 h e3
  have eE : decide ((3 : Int) < (E : Int)) = false := by simp; omega
  have eN : decide ((128 : Int) < (n : Int)) = false := by simp; omega
  go_enter Taig.func68, Taig.ntmps68
  go_wp2_with fail
  generalize (w.alloc (.cells #[.bool false, .slice none 0 0, .slice none 0 0] 80)).alloc (.cells #[.slice none 0 0, .slice none 0 0] 107) = w1 at *
  go_loopg [6] n (fun gk iv wr => ∃ i : Nat, gk = n - i ∧ i ≤ n ∧ iv = .int .i64 (i : Int) ∧ Hid (RuI w wr w.heap.size (rn ks vs i)))
  case atStart => exact ⟨0, rfl, Nat.zero_le _, rfl, I0⟩
  case round =>
    clear I0
    obtain ⟨i, rfl, hi, rfl, HI⟩ := hrel
    by_cases ci : i < n
    · obtain ⟨b, ad, la, ca, f, rfl, k1, k2, hk, hsl, hf, l1, l2, l3, hv⟩ := (unhide HS).keep (unhide HI).b i ci
      obtain ⟨g1, g2, g3, g4⟩ := unhide HR i hi
      have K := hide (step_any E (ks i) (vs i) ad la ca f (w.heap.size + 1) (w.heap.size + 1) (rn ks vs i) wr hE (unhide HI).mc g1 (by omega) g4 hsl hf l1 l2 l3 hk hv)
      rw [Nat.mul_comm] at k1 k2
      clear g1 g2 g3 g4 hk hv hsl hf
      go_wp2_with fail
      refine (unhide K).mono ?_
      rintro e w2 ⟨rfl, hmc, hb⟩
      have HI2 : Hid (RuI w w2 w.heap.size (rn ks vs (i + 1))) := ⟨(unhide HI).b.trans (hb.mono (by omega)), by have := (unhide HI).hM; have := hb.size; omega, (unhide HI).r.below hb (by omega), (unhide HI).fr.below hb (by omega), hmc⟩
      clear hmc K HI k1 k2
      go_wp2
      go_roundg (n - (i + 1))
      case measure => omega
      case rel => exact ⟨i + 1, rfl, by omega, rfl, HI2⟩
    · obtain rfl : i = n := by omega
      obtain ⟨g1, g2, g3, g4⟩ := unhide HR i (Nat.le_refl _)
      have K := hide (outcome_any (w.heap.size + 1) (w.heap.size + 1) (rn ks vs i).n (rn ks vs i).S (rn ks vs i).o wr (unhide HI).mc g1 (by omega) g4)
      clear g1 g2 g3 g4
      go_wp2_with fail
      refine (unhide K).mono ?_
      rintro e w2 ⟨sa, so, rfl, hp, ho, hb⟩
      have HR2 := hide ((unhide HI).r.keep hb)
      have HF2 := hide ((unhide HI).fr.below hb (by have := (unhide HI).hM; omega))
      have v0 := (unhide HR2) 0 (by decide)
      have v1 := (unhide HR2) 1 (by decide)
      have v2 := (unhide HR2) 2 (by decide)
      have x0 := (unhide HF2).all (by decide) 0
      have x1 := (unhide HF2).all (by decide) 1
      have x2 := (unhide HF2).all (by decide) 2
      simp only [Nat.zero_add, oc3] at v0 v1 v2
      have HP := hide hp
      have HO := hide ho
      clear hp ho
      have sM := (unhide HI).hM
      have bM := (unhide HI).b
      obtain ⟨fin1, fin2, fin3, fin4⟩ := set3 (unhide HR2) (unhide HP) (unhide HO) sM (bM.trans (hb.mono (by omega)))
      go_wp2
      refine bodyPost_ret (results_cell_at rfl _ _ w.heap.size [.bool false, .slice sa (rn ks vs i).n (rn ks vs i).n, .slice so (rn ks vs i).o (rn ks vs i).o] _ rfl fin1 Taig.underlying80 rfl (by rw [Taig.size80]; rfl)) rfl ?_
      exact ⟨_, _, rfl, fin2, fin3, fin4⟩
end Go.Proofs.Ygctai
