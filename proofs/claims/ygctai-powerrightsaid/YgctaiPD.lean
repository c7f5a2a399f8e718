/-
  mkara: addAt.
-/
import Derived.Test.YgctaiPC
namespace Go.Proofs.Ygctai
open Go.RowKit
set_option linter.unusedVariables false

set_option maxRecDepth 100000 in
set_option maxHeartbeats 1000000 in
/-- mkara.addAt. -/
theorem addAt_core (ba oa n ca : Nat) (b : Option Addr) (lb cb : Nat) (f g : Nat → Nat) (w : World) (hr : Row w ba oa n (oct f)) (hfr : Free w ba oa n) (hf : Byt f) (hs : Sl w b lb g) (hg : Byt g) (hd : ∀ b' o, b = some ⟨b', o, none⟩ → b' ≠ ba) (hle : val f n + val g lb < 256 ^ n) (hlb : lb ≤ n) (hn : n ≤ 1048576) :
    Calls Taig.prog 168 #[.slice (some ⟨ba, oa, none⟩) n ca, .slice b lb cb] w fun e w' => ∃ f', e = .returned (.tuple #[]) ∧ Row w' ba oa n (oct f') ∧ Byt f' ∧ val f' n = val f n + val g lb ∧ Wr ba oa (oa + n) w w' := by
  have HF := hide hf
  have HG := hide hg
  have HLE := hide hle
  have hG0 : Hid (∀ i, lb ≤ i → cutf g lb i = 0) := fun i hi => cutf_ge g hi
  have hGB : Hid (Byt (cutf g lb)) := byt_cutf hg lb
  have hGn : Hid (val (cutf g lb) n = val g lb) := by
    unfold Hid
    rw [val_high hlb (fun i h1 _ => cutf_ge g h1)]
    exact val_congr _ fun i hi => cutf_lt g hi
  have hGi : Hid (∀ i, i < lb → cutf g lb i = g i) := fun i hi => cutf_lt g hi
  obtain ⟨G, hGG⟩ : ∃ G, Hid (cutf g lb = G) := ⟨_, rfl⟩
  rw [unhide hGG] at hG0 hGB hGn hGi
  clear hf hg hle
  rcases Nat.eq_zero_or_pos n with hn0 | hn0
  · subst hn0
    go_enter Taig.func168, Taig.ntmps168
    go_wp2
    go_loopg [4, 5] 0 (fun gi bv iv wr => bv = .int .u16 0 ∧ iv = .int .i64 0 ∧ w = wr)
    case atStart => exact ⟨rfl, rfl, rfl⟩
    case round =>
      obtain ⟨rfl, rfl, rfl⟩ := hrel
      go_wp2
      go_end0
      exact ⟨f, rfl, hr, unhide HF, by have h1 := unhide HLE; rw [Nat.pow_zero] at h1; rw [show val f 0 = 0 from rfl] at *; omega, Wr.refl _ _ _ _⟩
  have hbl := hr.block_lt hn0
  go_enter Taig.func168, Taig.ntmps168
  go_wp2
  go_loopg [4, 5] n (fun gi bv iv wr => ∃ (i bo : Nat) (h : Nat → Nat), gi = n - i ∧ i ≤ n ∧ iv = .int .i64 i ∧ bv = .int .u16 bo ∧ bo ≤ 1 ∧ Hid (Ab f G h i bo) ∧ Hid (Byt h) ∧ Row wr ba oa n (oct h) ∧ Wr ba oa (oa + n) w wr)
  case atStart => exact ⟨0, 0, f, rfl, Nat.zero_le _, rfl, rfl, by omega, ⟨by simp [val], fun _ _ => rfl, by omega⟩, HF, hr, Wr.refl _ _ _ _⟩
  case round =>
    clear hr
    obtain ⟨i, bo, h, rfl, hi, rfl, rfl, hbo, hS, hh, hr, hwr⟩ := hrel
    have hfr2 := hfr.wr hwr hbl
    by_cases hgo : i < n ∧ (i < lb ∨ bo ≠ 0)
    · obtain ⟨hin, hor⟩ := hgo
      have c1 := hr.cell hin
      have f1 := hfr2 i hin
      simp only [oct_at] at c1
      rw [(unhide hS).rest i (Nat.le_refl _)] at c1
      have a1 := unhide HF i
      obtain ⟨x, hx⟩ : ∃ x, Hid (f i = x) := ⟨_, rfl⟩
      rw [unhide hx] at c1 a1
      obtain ⟨y, hy⟩ : ∃ y, Hid (G i = y) := ⟨_, rfl⟩
      have ay : y < 256 := by rw [← unhide hy]; exact unhide hGB i
      obtain ⟨Z, hZ⟩ : ∃ Z, Hid (x + y + bo = Z) := ⟨_, rfl⟩
      have hZl : Z < 512 := by rw [← unhide hZ]; omega
      obtain ⟨d, hZ1⟩ : ∃ d, Hid (Z % 256 = d) := ⟨_, rfl⟩
      obtain ⟨bo', hZ2⟩ : ∃ bo', Hid (Z / 256 = bo') := ⟨_, rfl⟩
      have hdl : d < 256 := by have := unhide hZ1; omega
      have hbo' : bo' ≤ 1 := by have := unhide hZ2; omega
      have HS2 : Hid (Ab f G (upd h i d) (i + 1) bo') := (unhide hS).step (by rw [unhide hx, unhide hy, unhide hZ]; have := unhide hZ1; have := unhide hZ2; omega) hbo'
      have HB2 : Hid (Byt (upd h i d)) := (unhide hh).upd _ _ hdl
      by_cases hilb : i < lb
      · obtain ⟨bb, ob, rfl, rb⟩ := hs (by omega)
        have hne := hd bb ob rfl
        have c2 := (rb.wr hwr (.inl hne)).cell hilb
        simp only [oct_at] at c2
        rw [← unhide hGi i hilb, unhide hy] at c2
        clear hor
        go_wp2
        go_roundg (n - (i + 1))
        case measure => omega
        case rel => exact ⟨i + 1, bo', upd h i d, rfl, by omega, by go_num, int_eq (by have := unhide hZ2; have := unhide hZ; first | omega | (have := unhide HY0; omega)), hbo', HS2, HB2, hr.put i d hin rfl (by have := unhide hZ1; have := unhide hZ; first | omega | (have := unhide HY0; omega)), hwr.setCell (by omega) (by omega) _⟩
      · have hbo1 : ((bo : Int) != 0) = true := by simp; omega
        have hbo2 : ((bo : Int) == 0) = false := by simp; omega
        have hy0 : y = 0 := by rw [← unhide hy]; exact unhide hG0 i (by omega)
        have HY0 := hide hy0
        clear hor hy0
        go_wp2
        go_roundg (n - (i + 1))
        case measure => omega
        case rel => exact ⟨i + 1, bo', upd h i d, rfl, by omega, by go_num, int_eq (by have := unhide hZ2; have := unhide hZ; first | omega | (have := unhide HY0; omega)), hbo', HS2, HB2, hr.put i d hin rfl (by have := unhide hZ1; have := unhide hZ; first | omega | (have := unhide HY0; omega)), hwr.setCell (by omega) (by omega) _⟩
    · have hres : Hid (val h n = val f n + val g lb) := by
        have h1 := (unhide hS).sum
        have h2 := val_tail hi (unhide hS).rest
        have h4 := unhide hGn
        have h5 := unhide HLE
        unfold Hid
        by_cases c : i < n
        · have hb0 : bo = 0 := by omega
          have h6 : val G n = val G i := val_high hi (fun j h1 h2 => unhide hG0 j (by omega))
          rw [hb0, Nat.zero_mul] at h1
          omega
        · obtain rfl : i = n := by omega
          rcases Nat.eq_zero_or_pos bo with hb0 | hb0
          · rw [hb0, Nat.zero_mul] at h1; omega
          · have h7 : 1 * 256 ^ i ≤ bo * 256 ^ i := Nat.mul_le_mul_right _ hb0
            omega
      by_cases c : i < n
      · have hb0 : bo = 0 := by omega
        have hb1 : ¬ i < lb := by omega
        subst hb0
        go_wp2
        go_end0
        exact ⟨h, rfl, hr, unhide hh, unhide hres, hwr⟩
      · obtain rfl : i = n := by omega
        go_wp2
        go_end0
        exact ⟨h, rfl, hr, unhide hh, unhide hres, hwr⟩
end Go.Proofs.Ygctai
