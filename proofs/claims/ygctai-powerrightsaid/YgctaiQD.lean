/-
  calc: sharesDigit.
-/
import Derived.Test.YgctaiQC
namespace Go.Proofs.Ygctai
open Go.RowKit
set_option linter.unusedVariables false

theorem neqNil23 (a : Option Addr) (n c : Nat) (w : World) : (binOp .neq 23 (.slice a n c) (.slice none 0 0)).run Taig.prog w = .ok (.bool (!a.isNone)) w := by
  have h := eqNil23 a n c w
  simp only [binOp] at h ⊢
  simp only [Sem.run_bind, Sem.run_pure] at h ⊢
  generalize Sem.run Taig.prog (Op.equal 23 (Value.slice a n c) (Value.slice none 0 0)) w = R at h ⊢
  cases R <;> simp_all [Result.andThen]

theorem reset8 (w a : World) (fb M : Nat) (p : Nat → Value) (r : Row w fb 0 8 p) (f : Free w fb 0 8) (hb : Below M a w) (hM : M ≤ fb) (hs : M < w.heap.size) :
    Row ((((((((w.setCell ⟨fb, 0, none⟩ (.pointer none)).setCell ⟨fb, 1, none⟩ (.pointer none)).setCell ⟨fb, 2, none⟩ (.pointer none)).setCell ⟨fb, 3, none⟩ (.pointer none)).setCell ⟨fb, 4, none⟩ (.pointer none)).setCell ⟨fb, 5, none⟩ (.pointer none)).setCell ⟨fb, 6, none⟩ (.pointer none)).setCell ⟨fb, 7, none⟩ (.pointer none)) fb 0 8 (fun _ => .pointer none) ∧ Free ((((((((w.setCell ⟨fb, 0, none⟩ (.pointer none)).setCell ⟨fb, 1, none⟩ (.pointer none)).setCell ⟨fb, 2, none⟩ (.pointer none)).setCell ⟨fb, 3, none⟩ (.pointer none)).setCell ⟨fb, 4, none⟩ (.pointer none)).setCell ⟨fb, 5, none⟩ (.pointer none)).setCell ⟨fb, 6, none⟩ (.pointer none)).setCell ⟨fb, 7, none⟩ (.pointer none)) fb 0 8 ∧ Below M a ((((((((w.setCell ⟨fb, 0, none⟩ (.pointer none)).setCell ⟨fb, 1, none⟩ (.pointer none)).setCell ⟨fb, 2, none⟩ (.pointer none)).setCell ⟨fb, 3, none⟩ (.pointer none)).setCell ⟨fb, 4, none⟩ (.pointer none)).setCell ⟨fb, 5, none⟩ (.pointer none)).setCell ⟨fb, 6, none⟩ (.pointer none)).setCell ⟨fb, 7, none⟩ (.pointer none)) ∧ M < ((((((((w.setCell ⟨fb, 0, none⟩ (.pointer none)).setCell ⟨fb, 1, none⟩ (.pointer none)).setCell ⟨fb, 2, none⟩ (.pointer none)).setCell ⟨fb, 3, none⟩ (.pointer none)).setCell ⟨fb, 4, none⟩ (.pointer none)).setCell ⟨fb, 5, none⟩ (.pointer none)).setCell ⟨fb, 6, none⟩ (.pointer none)).setCell ⟨fb, 7, none⟩ (.pointer none)).heap.size := by
  have r' := (((((((r.setCell (i := 0) (by decide) (.pointer none)).setCell (i := 1) (by decide) (.pointer none)).setCell (i := 2) (by decide) (.pointer none)).setCell (i := 3) (by decide) (.pointer none)).setCell (i := 4) (by decide) (.pointer none)).setCell (i := 5) (by decide) (.pointer none)).setCell (i := 6) (by decide) (.pointer none)).setCell (i := 7) (by decide) (.pointer none)
  refine ⟨r'.congr (fun i hi => ?_), ((((((((f.setCell _ _).setCell _ _).setCell _ _).setCell _ _).setCell _ _).setCell _ _).setCell _ _).setCell _ _), ((((((((hb.setCell hM _).setCell hM _).setCell hM _).setCell hM _).setCell hM _).setCell hM _).setCell hM _).setCell hM _), by simpa using hs⟩
  match i, hi with
  | 0, _ => rfl | 1, _ => rfl | 2, _ => rfl | 3, _ => rfl | 4, _ => rfl | 5, _ => rfl | 6, _ => rfl | 7, _ => rfl

set_option maxRecDepth 100000 in
set_option maxHeartbeats 1000000 in
/-- sharesDigit, of entries that are apart. -/
theorem shares_any (sb n cap i : Nat) (c : Nat → Value) (ad : Nat → Option Addr) (S : Nat → Nat) (w : World) (hi : i < n) (hn : n ≤ 16) (r : Row w sb 0 n c) (hc : ∀ j, j < n → c j = .slice (ad j) (dlen (S j)) (dlen (S j)))
    (hN : ∀ j, j < n → Nt w 0 (ad j) (S j)) (hap : ∀ j, j < n → j ≠ i → Apt (ad i) (ad j)) (hl : ∀ j, j < n → dlen (S j) ≤ 1024) (hp : 0 < S i) :
    Calls Taig.prog 138 #[.slice (some ⟨sb, 0, none⟩) n cap, .int .i64 (i : Int)] w fun e w' => e = .returned (.bool false) ∧ Below w.heap.size w w' := by
  obtain ⟨b, off, hb, _, rr, rf⟩ := (hN i hi).2 hp
  have ci := r i hi
  rw [hc i hi, hb, Nat.zero_add] at ci
  have li := hl i hi
  have hsb := r.block_lt (by omega)
  have hbl := rr.block_lt (dlen_pos hp)
  have hone : Hid (∀ j, j < n → j ≠ i → 0 < S j → ∃ b' o', w.cell? ⟨sb, j, none⟩ = some (.slice (some ⟨b', o', none⟩) (dlen (S j)) (dlen (S j))) ∧ 0 < dlen (S j) ∧ ∃ v, w.cell? ⟨b', o', none⟩ = some v ∧ b' ≠ b) := fun j hj hji h0 => by
    obtain ⟨b', o', e, _, r', _⟩ := (hN j hj).2 h0
    have cj := r j hj
    rw [hc j hj, e, Nat.zero_add] at cj
    refine ⟨b', o', cj, dlen_pos h0, _, by simpa using r' 0 (dlen_pos h0), ?_⟩
    rintro rfl
    exact hap j hj hji _ _ _ _ _ hb e
  have hzero : Hid (∀ j, j < n → S j = 0 → w.cell? ⟨sb, j, none⟩ = some (.slice none 0 0)) := fun j hj h0 => by
    have cj := r j hj
    rw [hc j hj, (hN j hj).1 h0, Nat.zero_add, h0] at cj
    exact cj
  have hlj := hide hl
  generalize dlen (S i) = l at *
  clear hN hap hc hl r
  go_enter Taig.func138, Taig.ntmps138
  go_wp2
  have hba := below_alloc w (.cells #[.pointer none, .pointer none, .pointer none, .pointer none, .pointer none, .pointer none, .pointer none, .pointer none] 167)
  have r8 := row_new w #[.pointer none, .pointer none, .pointer none, .pointer none, .pointer none, .pointer none, .pointer none, .pointer none] 167 8 (fun _ => .pointer none) (fun j hj => by
    match j, hj with
    | 0, _ => rfl | 1, _ => rfl | 2, _ => rfl | 3, _ => rfl | 4, _ => rfl | 5, _ => rfl | 6, _ => rfl | 7, _ => rfl)
  have f8 := free_new w #[.pointer none, .pointer none, .pointer none, .pointer none, .pointer none, .pointer none, .pointer none, .pointer none] 167 8
  generalize hw1 : w.alloc (.cells #[.pointer none, .pointer none, .pointer none, .pointer none, .pointer none, .pointer none, .pointer none, .pointer none] 167) = w1 at *
  have hs1 : w.heap.size < w1.heap.size := by rw [← hw1]; simp
  clear hw1
  go_loopg [7, 8] n (fun gk nv jv wr => ∃ (j m : Nat) (p : Nat → Value), gk = n - j ∧ j ≤ n ∧ m ≤ 7 ∧ nv = .int .i64 m ∧ jv = .int .i64 j ∧ Row wr w.heap.size 0 8 p ∧ Free wr w.heap.size 0 8 ∧ Hid (∀ q, q < 8 → Plc wr b (p q)) ∧ Below w.heap.size w wr ∧ w.heap.size < wr.heap.size)
  case atStart => exact ⟨0, 0, _, rfl, Nat.zero_le _, by decide, rfl, rfl, r8, f8, fun q _ => .inl rfl, hba, hs1⟩
  case round =>
    obtain ⟨j, m, p, rfl, hj, hm, rfl, rfl, hr, hf, hp, hb1, hs⟩ := hrel
    clear r8 f8 hs1 hba
    by_cases c1 : j < n
    · obtain ⟨wo, rfl⟩ : ∃ x, x = wr := ⟨wr, rfl⟩
      have hways : j = i ∨ (j ≠ i ∧ S j = 0) ∨ (j ≠ i ∧ 0 < S j) := by omega
      rcases hways with hji | ⟨hji, h0⟩ | ⟨hji, h0⟩
      · subst hji
        go_upto_region 10 with fail
        have hm8 : m ≤ 8 := by omega
        clear hm
        obtain ⟨m2, rfl⟩ : ∃ x, x = m := ⟨m, rfl⟩
        obtain ⟨p2, rfl⟩ : ∃ x, x = p := ⟨p, rfl⟩
        obtain ⟨wc, rfl⟩ : ∃ x, x = wo := ⟨wo, rfl⟩
        have R1 := rr.below hb1 hbl
        have F1 := rf.below hb1 hbl
        have K := hide (anyOf_any b off l l w.heap.size _ p2 wc (by omega) R1 F1 hr (unhide hp))
        by_cases h8 : m2 = 8
        · subst h8
          clear R1 F1
          go_wp2_with fail
          refine (unhide K).mono ?_
          rintro e w5 ⟨rfl, hb5⟩
          have r5 := hr.below hb5 hs
          have f5 := hf.below hb5 hs
          have s5 := hb5.size
          have X := hide (reset8 w5 w w.heap.size w.heap.size p2 r5 f5 (hb1.trans (hb5.mono (by omega))) (Nat.le_refl _) (by omega))
          have x0 := r5 0 (by decide)
          have y0 := f5.all (by decide) 0
          have x1 := r5 1 (by decide)
          have y1 := f5.all (by decide) 1
          have x2 := r5 2 (by decide)
          have y2 := f5.all (by decide) 2
          have x3 := r5 3 (by decide)
          have y3 := f5.all (by decide) 3
          have x4 := r5 4 (by decide)
          have y4 := f5.all (by decide) 4
          have x5 := r5 5 (by decide)
          have y5 := f5.all (by decide) 5
          have x6 := r5 6 (by decide)
          have y6 := f5.all (by decide) 6
          have x7 := r5 7 (by decide)
          have y7 := f5.all (by decide) 7
          simp only [Nat.zero_add] at x0 x1 x2 x3 x4 x5 x6 x7
          clear r5 f5
          go_wp2
          go_roundg (n - (j + 1))
          case measure => omega
          case rel =>
            have := unhide X
            exact ⟨j + 1, 0, _, rfl, by omega, by decide, rfl, rfl, this.1, this.2.1, fun q _ => .inl rfl, this.2.2.1, this.2.2.2⟩
        · have e8 : ((m2 : Int) == 8) = false := by rw [beq_eq_false_iff_ne]; omega
          by_cases hL : 0 < m2 ∧ j + 1 = n
          · obtain ⟨h0m, hjn⟩ := hL
            have ej : ((j : Int) == (n : Int) - 1) = true := by rw [beq_iff_eq]; omega
            have HJ := hide hjn
            clear hjn
            clear R1 F1
            go_wp2_with fail
            refine (unhide K).mono ?_
            rintro e w5 ⟨rfl, hb5⟩
            have r5 := hr.below hb5 hs
            have f5 := hf.below hb5 hs
            have s5 := hb5.size
            have X := hide (reset8 w5 w w.heap.size w.heap.size p2 r5 f5 (hb1.trans (hb5.mono (by omega))) (Nat.le_refl _) (by omega))
            have x0 := r5 0 (by decide)
            have y0 := f5.all (by decide) 0
            have x1 := r5 1 (by decide)
            have y1 := f5.all (by decide) 1
            have x2 := r5 2 (by decide)
            have y2 := f5.all (by decide) 2
            have x3 := r5 3 (by decide)
            have y3 := f5.all (by decide) 3
            have x4 := r5 4 (by decide)
            have y4 := f5.all (by decide) 4
            have x5 := r5 5 (by decide)
            have y5 := f5.all (by decide) 5
            have x6 := r5 6 (by decide)
            have y6 := f5.all (by decide) 6
            have x7 := r5 7 (by decide)
            have y7 := f5.all (by decide) 7
            simp only [Nat.zero_add] at x0 x1 x2 x3 x4 x5 x6 x7
            clear r5 f5
            go_wp2
            go_roundg (n - (j + 1))
            case measure => omega
            case rel =>
              have := unhide X
              exact ⟨j + 1, 0, _, rfl, by omega, by decide, rfl, rfl, this.1, this.2.1, fun q _ => .inl rfl, this.2.2.1, this.2.2.2⟩
          · have HM := hide hm8
            rcases Nat.eq_zero_or_pos m2 with h0m | h0m
            · subst h0m
              clear R1 F1 K
              go_wp2
              go_roundg (n - (j + 1))
              case measure => omega
              case rel => exact ⟨j + 1, 0, p2, rfl, by omega, by decide, rfl, rfl, hr, hf, hp, hb1, hs⟩
            · have ej : ((j : Int) == (n : Int) - 1) = false := by rw [beq_eq_false_iff_ne]; omega
              clear R1 F1 K
              go_wp2
              go_roundg (n - (j + 1))
              case measure => omega
              case rel => exact ⟨j + 1, m2, p2, rfl, by omega, by omega, rfl, rfl, hr, hf, hp, hb1, hs⟩
      · have cj := (unhide hzero) j c1 h0
        rw [← hb1.cell hsb] at cj
        have e1 : ((j : Int) == (i : Int)) = false := by rw [beq_eq_false_iff_ne]; omega
        have hr0 := neqNil23 none 0 0 wo
        go_upto_region 10 with fail
        have hm8 : m ≤ 8 := by omega
        clear hm cj e1 hr0
        obtain ⟨m2, rfl⟩ : ∃ x, x = m := ⟨m, rfl⟩
        obtain ⟨p2, rfl⟩ : ∃ x, x = p := ⟨p, rfl⟩
        obtain ⟨wc, rfl⟩ : ∃ x, x = wo := ⟨wo, rfl⟩
        have R1 := rr.below hb1 hbl
        have F1 := rf.below hb1 hbl
        have K := hide (anyOf_any b off l l w.heap.size _ p2 wc (by omega) R1 F1 hr (unhide hp))
        by_cases h8 : m2 = 8
        · subst h8
          clear R1 F1
          go_wp2_with fail
          refine (unhide K).mono ?_
          rintro e w5 ⟨rfl, hb5⟩
          have r5 := hr.below hb5 hs
          have f5 := hf.below hb5 hs
          have s5 := hb5.size
          have X := hide (reset8 w5 w w.heap.size w.heap.size p2 r5 f5 (hb1.trans (hb5.mono (by omega))) (Nat.le_refl _) (by omega))
          have x0 := r5 0 (by decide)
          have y0 := f5.all (by decide) 0
          have x1 := r5 1 (by decide)
          have y1 := f5.all (by decide) 1
          have x2 := r5 2 (by decide)
          have y2 := f5.all (by decide) 2
          have x3 := r5 3 (by decide)
          have y3 := f5.all (by decide) 3
          have x4 := r5 4 (by decide)
          have y4 := f5.all (by decide) 4
          have x5 := r5 5 (by decide)
          have y5 := f5.all (by decide) 5
          have x6 := r5 6 (by decide)
          have y6 := f5.all (by decide) 6
          have x7 := r5 7 (by decide)
          have y7 := f5.all (by decide) 7
          simp only [Nat.zero_add] at x0 x1 x2 x3 x4 x5 x6 x7
          clear r5 f5
          go_wp2
          go_roundg (n - (j + 1))
          case measure => omega
          case rel =>
            have := unhide X
            exact ⟨j + 1, 0, _, rfl, by omega, by decide, rfl, rfl, this.1, this.2.1, fun q _ => .inl rfl, this.2.2.1, this.2.2.2⟩
        · have e8 : ((m2 : Int) == 8) = false := by rw [beq_eq_false_iff_ne]; omega
          by_cases hL : 0 < m2 ∧ j + 1 = n
          · obtain ⟨h0m, hjn⟩ := hL
            have ej : ((j : Int) == (n : Int) - 1) = true := by rw [beq_iff_eq]; omega
            have HJ := hide hjn
            clear hjn
            clear R1 F1
            go_wp2_with fail
            refine (unhide K).mono ?_
            rintro e w5 ⟨rfl, hb5⟩
            have r5 := hr.below hb5 hs
            have f5 := hf.below hb5 hs
            have s5 := hb5.size
            have X := hide (reset8 w5 w w.heap.size w.heap.size p2 r5 f5 (hb1.trans (hb5.mono (by omega))) (Nat.le_refl _) (by omega))
            have x0 := r5 0 (by decide)
            have y0 := f5.all (by decide) 0
            have x1 := r5 1 (by decide)
            have y1 := f5.all (by decide) 1
            have x2 := r5 2 (by decide)
            have y2 := f5.all (by decide) 2
            have x3 := r5 3 (by decide)
            have y3 := f5.all (by decide) 3
            have x4 := r5 4 (by decide)
            have y4 := f5.all (by decide) 4
            have x5 := r5 5 (by decide)
            have y5 := f5.all (by decide) 5
            have x6 := r5 6 (by decide)
            have y6 := f5.all (by decide) 6
            have x7 := r5 7 (by decide)
            have y7 := f5.all (by decide) 7
            simp only [Nat.zero_add] at x0 x1 x2 x3 x4 x5 x6 x7
            clear r5 f5
            go_wp2
            go_roundg (n - (j + 1))
            case measure => omega
            case rel =>
              have := unhide X
              exact ⟨j + 1, 0, _, rfl, by omega, by decide, rfl, rfl, this.1, this.2.1, fun q _ => .inl rfl, this.2.2.1, this.2.2.2⟩
          · have HM := hide hm8
            rcases Nat.eq_zero_or_pos m2 with h0m | h0m
            · subst h0m
              clear R1 F1 K
              go_wp2
              go_roundg (n - (j + 1))
              case measure => omega
              case rel => exact ⟨j + 1, 0, p2, rfl, by omega, by decide, rfl, rfl, hr, hf, hp, hb1, hs⟩
            · have ej : ((j : Int) == (n : Int) - 1) = false := by rw [beq_eq_false_iff_ne]; omega
              clear R1 F1 K
              go_wp2
              go_roundg (n - (j + 1))
              case measure => omega
              case rel => exact ⟨j + 1, m2, p2, rfl, by omega, by omega, rfl, rfl, hr, hf, hp, hb1, hs⟩
      · obtain ⟨b', o', cj, hdl, v, cv, hne⟩ := (unhide hone) j c1 hji h0
        have lj := (unhide hlj) j c1
        rw [← hb1.cell hsb] at cj
        have cv' : wo.cell? ⟨b', o', none⟩ = some v := by rw [hb1.cell (World.block_lt_of_cell? _ _ cv)]; exact cv
        have e1 : ((j : Int) == (i : Int)) = false := by rw [beq_eq_false_iff_ne]; omega
        have hr0 := neqNil23 (some ⟨b', o', none⟩) (dlen (S j)) (dlen (S j)) wo
        have k1 := hr.cell (i := m) (by omega)
        have k2 := hf m (by omega)
        generalize dlen (S j) = lj' at *
        rw [Nat.zero_add] at k1 k2
        go_upto_region 10 with fail
        have hm8 : m + 1 ≤ 8 := by omega
        have hr2 : Row (wo.setCell ⟨w.heap.size, m, none⟩ (.pointer (some ⟨b', o', none⟩))) w.heap.size 0 8 (upd p m (.pointer (some ⟨b', o', none⟩))) := by simpa using hr.setCell (i := m) (by omega) (.pointer (some ⟨b', o', none⟩))
        have hf2 := hf.setCell ⟨w.heap.size, m, none⟩ (.pointer (some ⟨b', o', none⟩))
        have hp2 : Hid (∀ q, q < 8 → Plc (wo.setCell ⟨w.heap.size, m, none⟩ (.pointer (some ⟨b', o', none⟩))) b (upd p m (.pointer (some ⟨b', o', none⟩)) q)) := fun q hq => by
          by_cases e : q = m
          · subst e
            rw [upd_at]
            obtain ⟨v', hv'⟩ := cell?_setCell_some (p := ⟨w.heap.size, q, none⟩) (x := .pointer (some ⟨b', o', none⟩)) cv'
            exact .inr ⟨b', o', v', rfl, hne, hv'⟩
          · rw [upd_ne _ _ e]
            rcases unhide hp q hq with h | ⟨b1, o1, v1, h1, h2, h3⟩
            · exact .inl h
            · obtain ⟨v', hv'⟩ := cell?_setCell_some (p := ⟨w.heap.size, m, none⟩) (x := .pointer (some ⟨b', o', none⟩)) h3
              exact .inr ⟨b1, o1, v', h1, h2, hv'⟩
        have hb2 := hb1.setCell (p := ⟨w.heap.size, m, none⟩) (Nat.le_refl _) (.pointer (some ⟨b', o', none⟩))
        have hs2 : w.heap.size < (wo.setCell ⟨w.heap.size, m, none⟩ (.pointer (some ⟨b', o', none⟩))).heap.size := by simpa using hs
        rw [show ((m : Int) + 1) = ((m + 1 : Nat) : Int) from rfl]
        clear hr hf hp hb1 hs hm cj cv' k1 k2 hr0 e1 hdl lj cv
        generalize wo.setCell ⟨w.heap.size, m, none⟩ (.pointer (some ⟨b', o', none⟩)) = wc at *
        generalize upd p m (.pointer (some ⟨b', o', none⟩)) = p2 at *
        generalize m + 1 = m2 at *
        have hr := hr2
        have hf := hf2
        have hp := hp2
        have hb1 := hb2
        have hs := hs2
        clear hr2 hf2 hp2 hb2 hs2
        have R1 := rr.below hb1 hbl
        have F1 := rf.below hb1 hbl
        have K := hide (anyOf_any b off l l w.heap.size _ p2 wc (by omega) R1 F1 hr (unhide hp))
        by_cases h8 : m2 = 8
        · subst h8
          clear R1 F1
          go_wp2_with fail
          refine (unhide K).mono ?_
          rintro e w5 ⟨rfl, hb5⟩
          have r5 := hr.below hb5 hs
          have f5 := hf.below hb5 hs
          have s5 := hb5.size
          have X := hide (reset8 w5 w w.heap.size w.heap.size p2 r5 f5 (hb1.trans (hb5.mono (by omega))) (Nat.le_refl _) (by omega))
          have x0 := r5 0 (by decide)
          have y0 := f5.all (by decide) 0
          have x1 := r5 1 (by decide)
          have y1 := f5.all (by decide) 1
          have x2 := r5 2 (by decide)
          have y2 := f5.all (by decide) 2
          have x3 := r5 3 (by decide)
          have y3 := f5.all (by decide) 3
          have x4 := r5 4 (by decide)
          have y4 := f5.all (by decide) 4
          have x5 := r5 5 (by decide)
          have y5 := f5.all (by decide) 5
          have x6 := r5 6 (by decide)
          have y6 := f5.all (by decide) 6
          have x7 := r5 7 (by decide)
          have y7 := f5.all (by decide) 7
          simp only [Nat.zero_add] at x0 x1 x2 x3 x4 x5 x6 x7
          clear r5 f5
          go_wp2
          go_roundg (n - (j + 1))
          case measure => omega
          case rel =>
            have := unhide X
            exact ⟨j + 1, 0, _, rfl, by omega, by decide, rfl, rfl, this.1, this.2.1, fun q _ => .inl rfl, this.2.2.1, this.2.2.2⟩
        · have e8 : ((m2 : Int) == 8) = false := by rw [beq_eq_false_iff_ne]; omega
          by_cases hL : 0 < m2 ∧ j + 1 = n
          · obtain ⟨h0m, hjn⟩ := hL
            have ej : ((j : Int) == (n : Int) - 1) = true := by rw [beq_iff_eq]; omega
            have HJ := hide hjn
            clear hjn
            clear R1 F1
            go_wp2_with fail
            refine (unhide K).mono ?_
            rintro e w5 ⟨rfl, hb5⟩
            have r5 := hr.below hb5 hs
            have f5 := hf.below hb5 hs
            have s5 := hb5.size
            have X := hide (reset8 w5 w w.heap.size w.heap.size p2 r5 f5 (hb1.trans (hb5.mono (by omega))) (Nat.le_refl _) (by omega))
            have x0 := r5 0 (by decide)
            have y0 := f5.all (by decide) 0
            have x1 := r5 1 (by decide)
            have y1 := f5.all (by decide) 1
            have x2 := r5 2 (by decide)
            have y2 := f5.all (by decide) 2
            have x3 := r5 3 (by decide)
            have y3 := f5.all (by decide) 3
            have x4 := r5 4 (by decide)
            have y4 := f5.all (by decide) 4
            have x5 := r5 5 (by decide)
            have y5 := f5.all (by decide) 5
            have x6 := r5 6 (by decide)
            have y6 := f5.all (by decide) 6
            have x7 := r5 7 (by decide)
            have y7 := f5.all (by decide) 7
            simp only [Nat.zero_add] at x0 x1 x2 x3 x4 x5 x6 x7
            clear r5 f5
            go_wp2
            go_roundg (n - (j + 1))
            case measure => omega
            case rel =>
              have := unhide X
              exact ⟨j + 1, 0, _, rfl, by omega, by decide, rfl, rfl, this.1, this.2.1, fun q _ => .inl rfl, this.2.2.1, this.2.2.2⟩
          · have HM := hide hm8
            rcases Nat.eq_zero_or_pos m2 with h0m | h0m
            · subst h0m
              clear R1 F1 K
              go_wp2
              go_roundg (n - (j + 1))
              case measure => omega
              case rel => exact ⟨j + 1, 0, p2, rfl, by omega, by decide, rfl, rfl, hr, hf, hp, hb1, hs⟩
            · have ej : ((j : Int) == (n : Int) - 1) = false := by rw [beq_eq_false_iff_ne]; omega
              clear R1 F1 K
              go_wp2
              go_roundg (n - (j + 1))
              case measure => omega
              case rel => exact ⟨j + 1, m2, p2, rfl, by omega, by omega, rfl, rfl, hr, hf, hp, hb1, hs⟩
    · go_wp2
      go_ret
      exact ⟨rfl, hb1⟩
end Go.Proofs.Ygctai
