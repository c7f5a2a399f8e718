/-
  mkara: subFrom, addAt.
-/
import Derived.Test.YgctaiMulG
import Derived.Test.YgctaiTrim
namespace Go.Proofs.Ygctai
open Go.RowKit
set_option linter.unusedVariables false

/-! ### plain -/
/-- While b is taken off f, i places done. -/
structure Sb (f b g : Nat → Nat) (i bo : Nat) : Prop where
  sum : val f i + bo * 256 ^ i = val g i + val b i
  rest : ∀ j, i ≤ j → g j = f j
  bo1 : bo ≤ 1
theorem Sb.step {f b g : Nat → Nat} {i bo d bo' : Nat} (h : Sb f b g i bo) (hd : f i + bo' * 256 = d + b i + bo) (hb : bo' ≤ 1) : Sb f b (upd g i d) (i + 1) bo' := by
  refine ⟨?_, fun j hj => by rw [upd_ne _ _ (by omega)]; exact h.rest j (by omega), hb⟩
  have h1 := h.sum
  rw [val, val, val, upd_at, val_upd_ge g d (Nat.le_refl i), Nat.pow_succ]
  have h2 := congrArg (· * 256 ^ i) hd
  simp only [Nat.add_mul] at h2
  have h3 : bo' * (256 ^ i * 256) = bo' * 256 * 256 ^ i := by ac_rfl
  rw [h3]; omega
/-- While b is added to f. -/
structure Ab (f b g : Nat → Nat) (i co : Nat) : Prop where
  sum : val f i + val b i = val g i + co * 256 ^ i
  rest : ∀ j, i ≤ j → g j = f j
  co1 : co ≤ 1
theorem Ab.step {f b g : Nat → Nat} {i co d co' : Nat} (h : Ab f b g i co) (hd : f i + b i + co = d + co' * 256) (hb : co' ≤ 1) : Ab f b (upd g i d) (i + 1) co' := by
  refine ⟨?_, fun j hj => by rw [upd_ne _ _ (by omega)]; exact h.rest j (by omega), hb⟩
  have h1 := h.sum
  rw [val, val, val, upd_at, val_upd_ge g d (Nat.le_refl i), Nat.pow_succ]
  have h2 := congrArg (· * 256 ^ i) hd
  simp only [Nat.add_mul] at h2
  have h3 : co' * (256 ^ i * 256) = co' * 256 * 256 ^ i := by ac_rfl
  rw [h3]; omega
theorem val_tail {f g : Nat → Nat} {i n : Nat} (hi : i ≤ n) (h : ∀ j, i ≤ j → g j = f j) : val g n + val f i = val f n + val g i := by
  obtain ⟨d, rfl⟩ : ∃ d, n = i + d := ⟨n - i, by omega⟩
  rw [val_split, val_split f, val_congr d (fun j _ => h (i + j) (by omega))]; omega

set_option maxRecDepth 100000 in
set_option maxHeartbeats 1000000 in
/-- mkara.subFrom. -/
theorem subFrom_core (ba oa n ca : Nat) (b : Option Addr) (lb cb : Nat) (f g : Nat → Nat) (w : World) (hr : Row w ba oa n (oct f)) (hfr : Free w ba oa n) (hf : Byt f) (hs : Sl w b lb g) (hg : Byt g) (hd : ∀ b' o, b = some ⟨b', o, none⟩ → b' ≠ ba) (hle : val g lb ≤ val f n) (hlb : lb ≤ n) (hn : n ≤ 1048576) :
    Calls Taig.prog 167 #[.slice (some ⟨ba, oa, none⟩) n ca, .slice b lb cb] w fun e w' => ∃ f', e = .returned (.tuple #[]) ∧ Row w' ba oa n (oct f') ∧ Byt f' ∧ val f' n = val f n - val g lb ∧ Wr ba oa (oa + n) w w' := by
  have HF := hide hf
  have HG := hide hg
  have HLE := hide hle
  have hG0 : Hid (∀ i, lb ≤ i → cutf g lb i = 0) := fun i hi => cutf_ge g hi
  have hGB : Hid (Byt (cutf g lb)) := byt_cutf hg lb
  have hGn : Hid (val (cutf g lb) n = val g lb) := by
    unfold Hid
    rw [val_high hlb (fun i h1 _ => cutf_ge g h1)]
    exact val_congr _ fun i hi => cutf_lt g hi
  have hGi : Hid (∀ i, i < lb → cutf g lb i = g i) := fun i hi => cutf_lt g hi
  obtain ⟨G, hGG⟩ : ∃ G, Hid (cutf g lb = G) := ⟨_, rfl⟩
  rw [unhide hGG] at hG0 hGB hGn hGi
  clear hf hg hle
  rcases Nat.eq_zero_or_pos n with hn0 | hn0
  · subst hn0
    go_enter Taig.func167, Taig.ntmps167
    go_wp2
    go_loopg [4, 5] 0 (fun gi bv iv wr => bv = .int .u16 0 ∧ iv = .int .i64 0 ∧ w = wr)
    case atStart => exact ⟨rfl, rfl, rfl⟩
    case round =>
      obtain ⟨rfl, rfl, rfl⟩ := hrel
      go_wp2
      go_end0
      exact ⟨f, rfl, hr, unhide HF, by have h1 := unhide HLE; rw [show val f 0 = 0 from rfl] at *; omega, Wr.refl _ _ _ _⟩
  have hbl := hr.block_lt hn0
  go_enter Taig.func167, Taig.ntmps167
  go_wp2
  go_loopg [4, 5] n (fun gi bv iv wr => ∃ (i bo : Nat) (h : Nat → Nat), gi = n - i ∧ i ≤ n ∧ iv = .int .i64 i ∧ bv = .int .u16 bo ∧ bo ≤ 1 ∧ Hid (Sb f G h i bo) ∧ Hid (Byt h) ∧ Row wr ba oa n (oct h) ∧ Wr ba oa (oa + n) w wr)
  case atStart => exact ⟨0, 0, f, rfl, Nat.zero_le _, rfl, rfl, by omega, ⟨by simp [val], fun _ _ => rfl, by omega⟩, HF, hr, Wr.refl _ _ _ _⟩
  case round =>
    clear hr
    obtain ⟨i, bo, h, rfl, hi, rfl, rfl, hbo, hS, hh, hr, hwr⟩ := hrel
    have hfr2 := hfr.wr hwr hbl
    by_cases hgo : i < n ∧ (i < lb ∨ bo ≠ 0)
    · obtain ⟨hin, hor⟩ := hgo
      have c1 := hr.cell hin
      have f1 := hfr2 i hin
      simp only [oct_at] at c1
      rw [(unhide hS).rest i (Nat.le_refl _)] at c1
      have a1 := unhide HF i
      obtain ⟨x, hx⟩ : ∃ x, Hid (f i = x) := ⟨_, rfl⟩
      rw [unhide hx] at c1 a1
      obtain ⟨y, hy⟩ : ∃ y, Hid (G i = y) := ⟨_, rfl⟩
      have ay : y < 256 := by rw [← unhide hy]; exact unhide hGB i
      obtain ⟨d, bo', hd2, hbo', hdl⟩ : ∃ d bo', x + bo' * 256 = d + y + bo ∧ bo' ≤ 1 ∧ d < 256 := by
        by_cases c : y + bo ≤ x
        · exact ⟨x - (y + bo), 0, by omega, by omega, by omega⟩
        · exact ⟨x + 256 - (y + bo), 1, by omega, by omega, by omega⟩
      have HS2 : Hid (Sb f G (upd h i d) (i + 1) bo') := (unhide hS).step (by rw [unhide hx, unhide hy]; exact hd2) hbo'
      have HB2 : Hid (Byt (upd h i d)) := (unhide hh).upd _ _ hdl
      obtain ⟨z1, hz1, hz1l⟩ : ∃ z1 : Nat, IntKind.u16.wrap ((x : Int) - (bo : Int)) = (z1 : Int) ∧ z1 < 65536 := by
        refine ⟨if bo ≤ x then x - bo else x + 65536 - bo, ?_, ?_⟩
        · simp only [IntKind.wrap_u16]
          split <;> omega
        · split <;> omega
      have hz2 : IntKind.u16.wrap ((z1 : Int) - (y : Int)) = ((d + 65280 * bo' : Nat) : Int) := by
        simp only [IntKind.wrap_u16] at hz1 ⊢
        omega
      have hz3 : y = 0 → z1 = d + 65280 * bo' := fun h0 => by
        simp only [IntKind.wrap_u16] at hz1
        omega
      have HZ3 := hide hz3
      obtain ⟨Z, hZ⟩ : ∃ Z, Hid (d + 65280 * bo' = Z) := ⟨_, rfl⟩
      rw [unhide hZ] at hz2 HZ3
      have hZl : Z < 65536 := by rw [← unhide hZ]; omega
      have hZ1 : Hid (Z % 256 = d) := by unfold Hid; rw [← unhide hZ]; omega
      have hZ2 : Hid (Z / 32768 = bo') := by unfold Hid; rw [← unhide hZ]; omega
      clear hz3 hd2
      by_cases hilb : i < lb
      · obtain ⟨bb, ob, rfl, rb⟩ := hs (by omega)
        have hne := hd bb ob rfl
        have c2 := (rb.wr hwr (.inl hne)).cell hilb
        simp only [oct_at] at c2
        rw [← unhide hGi i hilb, unhide hy] at c2
        clear hor
        go_wp2
        go_roundg (n - (i + 1))
        case measure => omega
        case rel => exact ⟨i + 1, bo', upd h i d, rfl, by omega, by go_num, int_eq (by have := unhide hZ2; omega), hbo', HS2, HB2, hr.put i d hin rfl (by have := unhide hZ1; omega), hwr.setCell (by omega) (by omega) _⟩
      · have hbo1 : ((bo : Int) != 0) = true := by simp; omega
        have hbo2 : ((bo : Int) == 0) = false := by simp; omega
        have hy0 : y = 0 := by rw [← unhide hy]; exact unhide hG0 i (by omega)
        have hzz : z1 = Z := unhide HZ3 hy0
        subst hzz
        clear hor hy0 hz2
        go_wp2
        go_roundg (n - (i + 1))
        case measure => omega
        case rel => exact ⟨i + 1, bo', upd h i d, rfl, by omega, by go_num, int_eq (by have := unhide hZ2; omega), hbo', HS2, HB2, hr.put i d hin rfl (by have := unhide hZ1; omega), hwr.setCell (by omega) (by omega) _⟩
    · have hres : Hid (val h n = val f n - val g lb) := by
        have h1 := (unhide hS).sum
        have h2 := val_tail hi (unhide hS).rest
        have h3 := val_lt n (unhide hh).lt
        have h4 := unhide hGn
        have h5 := unhide HLE
        unfold Hid
        by_cases c : i < n
        · have hb0 : bo = 0 := by omega
          have h6 : val G n = val G i := val_high hi (fun j h1 h2 => unhide hG0 j (by omega))
          rw [hb0, Nat.zero_mul] at h1
          omega
        · obtain rfl : i = n := by omega
          rcases Nat.eq_zero_or_pos bo with hb0 | hb0
          · rw [hb0, Nat.zero_mul] at h1; omega
          · have h7 : 1 * 256 ^ i ≤ bo * 256 ^ i := Nat.mul_le_mul_right _ hb0
            omega
      by_cases c : i < n
      · have hb0 : bo = 0 := by omega
        have hb1 : ¬ i < lb := by omega
        subst hb0
        go_wp2
        go_end0
        exact ⟨h, rfl, hr, unhide hh, unhide hres, hwr⟩
      · obtain rfl : i = n := by omega
        go_wp2
        go_end0
        exact ⟨h, rfl, hr, unhide hh, unhide hres, hwr⟩
end Go.Proofs.Ygctai
