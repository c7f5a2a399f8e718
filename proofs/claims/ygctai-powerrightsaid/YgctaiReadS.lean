/-
  nschool.normal, nschool.ReadSchool.
-/
import Derived.Test.YgctaiTake
namespace Go.Proofs.Ygctai
open Go.RowKit
set_option linter.unusedVariables false

/-- What the first k decimals stand for. -/
def dec (t : Nat → Nat) : Nat → Nat
  | 0 => 0
  | k + 1 => 10 * dec t k + (t k - 48)

theorem dec_lt {t : Nat → Nat} (k : Nat) (h : ∀ i, i < k → t i ≤ 57) : dec t k < 10 ^ k := by
  induction k with
  | zero => simp [dec]
  | succ k ih =>
    have h1 := ih (fun i hi => h i (by omega))
    have h2 := h k (by omega)
    rw [dec, Nat.pow_succ]; omega

theorem ten_pow_le (n : Nat) : 10 ^ n ≤ 256 ^ (n / 2 + 1) := by
  have h : ∀ m, 10 ^ (2 * m) ≤ 256 ^ m := fun m => by
    rw [Nat.pow_mul]; exact Nat.pow_le_pow_left (by decide) m
  have e : n = 2 * (n / 2) + n % 2 := by omega
  have h2 : n % 2 = 0 ∨ n % 2 = 1 := by omega
  have hm := h (n / 2)
  rw [pow256_succ]
  rcases h2 with h2 | h2
  · rw [h2] at e; generalize n / 2 = m at *; subst e; simp only [Nat.add_zero]; omega
  · rw [h2] at e; generalize n / 2 = m at *; subst e; rw [Nat.pow_succ]; omega

set_option maxHeartbeats 400000 in
/-- nschool.normal: a copy without zeros at the top. -/
theorem normal_any (a : Option Addr) (n ca : Nat) (f : Nat → Nat) (w : World) (hs : Sl w a n f) (hf : Byt f) (hn : n ≤ ca) (hca : ca ≤ 9223372036854775807) (bn : n ≤ 140737488355328) :
    Calls Taig.prog 47 #[.slice a n ca] w fun e w' => ∃ c, e = .returned (.slice c (dlen (val f n)) (dlen (val f n))) ∧ Nt w' w.heap.size c (val f n) ∧ Below w.heap.size w w' := by
  have k := add_any a none n ca 0 0 f (fun _ => 0) w hs (fun h => absurd h (by decide)) hf byt_zero hn (Nat.le_refl _) hca (by decide) bn (by decide)
  simp only [val, Nat.add_zero] at k
  have K := hide k
  clear k
  go_enter Taig.func47, Taig.ntmps47
  go_wp2_with fail
  refine (unhide K).mono ?_
  rintro e w' ⟨c, rfl, hnt, hb⟩
  go_wp2
  go_ret
  exact ⟨c, rfl, hnt, hb⟩

/-- One step of 'times ten and a digit'. -/
theorem mul10_step {g : Nat → Nat} {k cy S v : Nat} (hg : val g k + cy * 256 ^ k = S) (hv : v = g k * 10 + cy) :
    val (upd g k (v % 256)) (k + 1) + (v / 256) * 256 ^ (k + 1) = S + 10 * (g k * 256 ^ k) := by
  rw [val, val_upd_ge g _ (Nat.le_refl _), upd_at, pow256_succ]
  have e3 : v % 256 * 256 ^ k + v / 256 * (256 * 256 ^ k) = v * 256 ^ k := by
    rw [← Nat.mul_assoc, ← Nat.add_mul]; congr 1; omega
  have e4 : v * 256 ^ k = 10 * (g k * 256 ^ k) + cy * 256 ^ k := by rw [hv, Nat.add_mul, ← Nat.mul_assoc 10, Nat.mul_comm 10 (g k)]
  omega

theorem mul10_end {g h : Nat → Nat} {L cy d D : Nat} (hh : val h L = D) (hg : val g L + cy * 256 ^ L = 10 * val h L + d) (hb : 10 * D + d < 256 ^ L) : val g L = 10 * D + d := by
  rw [hh] at hg
  rcases Nat.eq_zero_or_pos cy with e | e
  · subst e; omega
  · have : 1 * 256 ^ L ≤ cy * 256 ^ L := Nat.mul_le_mul_right _ e
    omega

/-- A digit. -/
def Dgt (x : Nat) : Prop := 48 ≤ x ∧ x ≤ 57

theorem dec_step_lt {t : Nat → Nat} {k n : Nat} (hd : ∀ j, j < k → Dgt (t j)) (h : Dgt (t k)) (hk : k < n) : 10 * dec t k + (t k - 48) < 256 ^ (n / 2 + 1) := by
  have h1 := dec_lt (t := t) (k + 1) (fun i hi => by
    rcases Nat.lt_or_ge i k with e | e
    · exact (hd i e).2
    · rw [show i = k by omega]; exact h.2)
  rw [dec] at h1
  have h2 : 10 ^ (k + 1) ≤ 10 ^ n := Nat.pow_le_pow_right (by decide) hk
  have h3 := ten_pow_le n
  omega

set_option maxRecDepth 100000 in
set_option maxHeartbeats 2000000 in
theorem readSchool_any (a : Option Addr) (n cap : Nat) (t : Nat → Nat) (w : World) (hs : Sl w a n t) (ht : Byt t) (h0 : 0 < n) (hn : n ≤ cap) (hc : cap ≤ 9223372036854775807) (bn : n ≤ 140737488355328) :
    Calls Taig.prog 17 #[.slice a n cap] w fun e w' => Below w.heap.size w w' ∧
      (((∀ i, i < n → Dgt (t i)) ∧ ∃ c, e = .returned (.tuple #[.slice c (dlen (dec t n)) (dlen (dec t n)), .bool true]) ∧ Nt w' w.heap.size c (dec t n)) ∨
       ((∃ i, i < n ∧ ¬ Dgt (t i)) ∧ e = .returned (.tuple #[.slice none 0 0, .bool false]))) := by
  obtain ⟨b, o, rfl, r⟩ := hs h0
  have hmk : ∀ w, (Instr.makeSlice 22 (.int .i64 ((n : Int) / 2 + 1)) (.int .i64 ((n : Int) / 2 + 1))).run Taig.prog w = .ok (.slice (some ⟨w.heap.size, 0, none⟩) (n / 2 + 1) (n / 2 + 1)) (w.alloc (made (.int .u8 0) (n / 2 + 1) 5)) := fun w => make22 (n / 2 + 1) (by omega) w
  have hn0 : ((n : Int) == 0) = false := by simp; omega
  go_enter Taig.func17, Taig.ntmps17
  go_wp2
  go_loopg [5] n (fun gk i wr => ∃ (k : Nat) (g : Nat → Nat), gk = n - k ∧ k ≤ n ∧ i = .int .i64 k ∧ (∀ j, j < k → Dgt (t j)) ∧ Byt g ∧ Row wr w.heap.size 0 (n / 2 + 1) (oct g) ∧ Free wr w.heap.size 0 (n / 2 + 1) ∧ Below w.heap.size w wr ∧ Hid (val g (n / 2 + 1) = dec t k))
  case atStart => exact ⟨0, fun _ => 0, rfl, Nat.zero_le _, rfl, fun j hj => absurd hj (by omega), byt_zero, row_made _ _ _ _, free_made _ _ _ _, below_alloc _ _, by simp [Hid, val_zero, dec]⟩
  case round =>
    obtain ⟨k, g, rfl, hk, rfl, hdk, hg, hrow, hfree, hbel, hval⟩ := hrel
    by_cases hlt : k < n
    · have c1 := (r.keep hbel).cell hlt
      have tb := ht k
      simp only [oct_at] at c1
      by_cases hlo : t k < 48
      · go_wp2
        go_ret2
        exact ⟨hbel, .inr ⟨⟨k, hlt, fun h => by have := h.1; omega⟩, rfl⟩⟩
      · by_cases hhi : 57 < t k
        · go_wp2
          go_ret2
          exact ⟨hbel, .inr ⟨⟨k, hlt, fun h => by have := h.2; omega⟩, rfl⟩⟩
        · have hdg : Dgt (t k) := ⟨by omega, by omega⟩
          go_wp2
          go_loopg [6, 7] (n / 2 + 1) (fun gj c j wi => ∃ (l cy : Nat) (h : Nat → Nat), gj = n / 2 + 1 - l ∧ l ≤ n / 2 + 1 ∧ j = .int .i64 l ∧ c = .int .u16 cy ∧ cy ≤ 9 ∧ Byt h ∧ Hid (∀ i, l ≤ i → h i = g i) ∧ Row wi w.heap.size 0 (n / 2 + 1) (oct h) ∧ Free wi w.heap.size 0 (n / 2 + 1) ∧ Below w.heap.size w wi ∧ Hid (val h l + cy * 256 ^ l = 10 * val g l + (t k - 48)))
          case atStart => exact ⟨0, t k - 48, g, rfl, by omega, rfl, int_eq (by omega), by omega, hg, fun _ _ => rfl, hrow, hfree, hbel, by simp [Hid, val]⟩
          case round =>
            obtain ⟨l, cy, h, rfl, hl, rfl, rfl, hcy, hh, hgh, hrow2, hfree2, hbel2, hval2⟩ := hrel
            clear hrow hfree
            by_cases hll : l < n / 2 + 1
            · have c2 := hrow2.cell (i := l) (by omega)
              have f2 := hfree2 l (by omega)
              simp only [Nat.zero_add, oct_at] at c2 f2
              have hb1 := hh l
              go_wp2
              go_roundg (n / 2 + 1 - (l + 1))
              case measure => omega
              case rel => exact ⟨l + 1, (h l * 10 + cy) / 256, upd h l ((h l * 10 + cy) % 256), rfl, by omega, by go_num, int_eq (by omega), by omega, hh.upd _ _ (Nat.mod_lt _ (by decide)), fun i hi => by rw [upd_ne _ _ (by omega)]; exact unhide hgh i (by omega), hrow2.put l _ (by omega) (by omega) (by omega), hfree2.setCell _ _, hbel2.setCell (Nat.le_refl _) _, hide (by
                have := mul10_step (unhide hval2) rfl
                rw [this, unhide hgh l (Nat.le_refl _), val, Nat.mul_add]; omega)⟩
            · have hl' : Hid (l = n / 2 + 1) := by unfold Hid; omega
              go_wp2
              go_roundg (n - (k + 1))
              case measure => omega
              case rel => exact ⟨k + 1, h, rfl, by omega, by go_num, fun j hj => by
                rcases Nat.lt_or_ge j k with e | e
                · exact hdk j e
                · rw [show j = k by omega]; exact hdg, hh, hrow2, hfree2, hbel2, hide (mul10_end (unhide hval) (by have := unhide hval2; rwa [unhide hl'] at this) (dec_step_lt hdk hdg hlt))⟩
    · have hk' : Hid (k = n) := by unfold Hid; omega
      go_wp2_with fail
      refine (normal_any _ _ _ g _ (fun _ => ⟨_, _, rfl, hrow⟩) hg (Nat.le_refl _) (by omega) (by omega)).mono ?_
      rintro e w2 ⟨c, rfl, hnt, hb2⟩
      go_wp2
      go_ret2
      have hz := hbel.size
      have hv : val g (n / 2 + 1) = dec t n := by rw [unhide hval, unhide hk']
      rw [hv] at hnt ⊢
      exact ⟨hbel.trans (hb2.mono hz), .inl ⟨fun i hi => hdk i (by rw [unhide hk']; exact hi), c, rfl, hnt.mono hz⟩⟩
end Go.Proofs.Ygctai
