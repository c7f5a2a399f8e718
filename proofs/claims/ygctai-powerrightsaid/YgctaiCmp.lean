/-
  nat.Cmp, nat.Sub, nat.Succ.
-/
import Derived.Test.YgctaiMem
import Derived.Test.YgctaiAdd
namespace Go.Proofs.Ygctai
open Go.RowKit
set_option linter.unusedVariables false

/-- -1, 0 or 1. -/
def cmpz (X Y : Nat) : Int := if X < Y then -1 else if X = Y then 0 else 1
theorem cmpz_lt {X Y : Nat} (h : X < Y) : cmpz X Y = -1 := if_pos h
theorem cmpz_eq (X : Nat) : cmpz X X = 0 := by unfold cmpz; rw [if_neg (by omega), if_pos rfl]
theorem cmpz_gt {X Y : Nat} (h : Y < X) : cmpz X Y = 1 := by unfold cmpz; rw [if_neg (by omega), if_neg (by omega)]

theorem div_low (X m : Nat) : X / 256 ^ m = 256 * (X / 256 ^ (m + 1)) + dig X m := by
  unfold dig
  rw [Nat.pow_succ, ← Nat.div_div_eq_div_mul]; omega
theorem lt_of_top {X Y m : Nat} (h : X / 256 ^ (m + 1) = Y / 256 ^ (m + 1)) (hd : dig X m < dig Y m) : X < Y := by
  have h1 := div_low X m
  have h2 := div_low Y m
  rcases Nat.lt_or_ge X Y with h3 | h3
  · exact h3
  · have := Nat.div_le_div_right (c := 256 ^ m) h3
    omega
theorem lt_of_dlen {X Y : Nat} (h : dlen X < dlen Y) : X < Y := by
  rcases Nat.lt_or_ge X Y with h3 | h3
  · exact h3
  · have := dlen_mono h3; omega

set_option maxRecDepth 100000 in
set_option maxHeartbeats 1000000 in
theorem cmp_core (a b x y : Option Addr) (n ca m cb X Y : Nat) (w : World)
    (k1 : Hid (Calls Taig.prog 46 #[.slice a n ca] w fun e w' => e = .returned (.slice x (dlen X) (dlen X)) ∧ w = w'))
    (k2 : Hid (Calls Taig.prog 46 #[.slice b m cb] w fun e w' => e = .returned (.slice y (dlen Y) (dlen Y)) ∧ w = w'))
    (hx : Sl w x (dlen X) (dig X)) (hy : Sl w y (dlen Y) (dig Y)) (bx : dlen X ≤ 140737488355328) (by' : dlen Y ≤ 140737488355328) :
    Calls Taig.prog 33 #[.slice a n ca, .slice b m cb] w fun e w' => e = .returned (.int .i8 (cmpz X Y)) ∧ Below w.heap.size w w' := by
  rcases Nat.lt_trichotomy (dlen X) (dlen Y) with h | h | h
  · rw [cmpz_lt (lt_of_dlen h)]
    have e1 : ((dlen X : Int) == (dlen Y : Int)) = false := by simp; omega
    go_enter Taig.func33, Taig.ntmps33
    go_wp2_with fail
    refine (unhide k1).mono ?_
    rintro e w' ⟨rfl, rfl⟩
    go_wp2_with fail
    refine (unhide k2).mono ?_
    rintro e w' ⟨rfl, rfl⟩
    go_wp2
    go_ret
    exact ⟨rfl, Below.refl _ _⟩
  case inr.inr =>
    rw [cmpz_gt (lt_of_dlen h)]
    have e1 : ((dlen X : Int) == (dlen Y : Int)) = false := by simp; omega
    go_enter Taig.func33, Taig.ntmps33
    go_wp2_with fail
    refine (unhide k1).mono ?_
    rintro e w' ⟨rfl, rfl⟩
    go_wp2_with fail
    refine (unhide k2).mono ?_
    rintro e w' ⟨rfl, rfl⟩
    go_wp2
    go_ret
    exact ⟨rfl, Below.refl _ _⟩
  obtain ⟨n', hn1, hn2⟩ : ∃ n', dlen X = n' ∧ dlen Y = n' := ⟨_, h, rfl⟩
  have HX : Hid (X / 256 ^ n' = Y / 256 ^ n') := by
    unfold Hid; rw [Nat.div_eq_of_lt (by rw [← hn1]; exact lt_pow_dlen X), Nat.div_eq_of_lt (by rw [← hn2]; exact lt_pow_dlen Y)]
  rw [hn1] at k1 hx
  rw [hn2] at k2 hy
  have bn : n' ≤ 140737488355328 := by omega
  clear hn1 hn2 h bx by'
  go_enter Taig.func33, Taig.ntmps33
  go_wp2_with fail
  refine (unhide k1).mono ?_
  rintro e w' ⟨rfl, rfl⟩
  go_wp2_with fail
  refine (unhide k2).mono ?_
  rintro e w' ⟨rfl, rfl⟩
  go_wp2
  go_loopg [5] n' (fun gl i wr => ∃ (l : Nat), l = gl ∧ l ≤ n' ∧ i = .int .i64 ((l : Int) - 1) ∧ Hid (X / 256 ^ l = Y / 256 ^ l) ∧ Below w.heap.size w wr)
  case atStart => exact ⟨n', rfl, Nat.le_refl _, rfl, HX, Below.refl _ _⟩
  case round =>
    obtain ⟨l, rfl, hl, rfl, hv, hbel⟩ := hrel
    rcases Nat.eq_zero_or_pos l with h0 | h0
    · subst h0
      have hXY : X = Y := by have := unhide hv; simpa using this
      have HE : Hid (cmpz X Y = 0) := by unfold Hid; rw [hXY]; exact cmpz_eq Y
      clear hXY
      go_wp2
      go_ret
      exact ⟨by rw [unhide HE]; rfl, hbel⟩
    · obtain ⟨j, rfl⟩ : ∃ j, l = j + 1 := ⟨l - 1, by omega⟩
      obtain ⟨b1, o1, rfl, r1⟩ := hx (by omega)
      obtain ⟨b2, o2, rfl, r2⟩ := hy (by omega)
      have c1 := (r1.keep hbel).cell (i := j) (by omega)
      have c2 := (r2.keep hbel).cell (i := j) (by omega)
      have d1 := dig_lt X j
      have d2 := dig_lt Y j
      simp only [oct_at] at c1 c2
      rcases Nat.lt_trichotomy (dig X j) (dig Y j) with hd | hd | hd
      · have HE := hide (cmpz_lt (lt_of_top (unhide hv) hd))
        go_wp2
        go_quiet (fail)
        go_wp2
        go_ret
        exact ⟨by rw [unhide HE]; rfl, belowN hbel nq⟩
      · have hv2 : Hid (X / 256 ^ j = Y / 256 ^ j) := by unfold Hid; rw [div_low X j, div_low Y j, unhide hv, hd]
        rw [hd] at c1
        clear hd hv
        go_wp2
        go_quiet (fail)
        go_wp2
        go_quiet (fail)
        go_wp2
        go_roundg j
        case measure => omega
        case rel => exact ⟨j, rfl, by omega, by go_num, hv2, belowN hbel _⟩
      · have HE := hide (cmpz_gt (lt_of_top (unhide hv).symm hd))
        go_wp2
        go_quiet (fail)
        go_wp2
        go_quiet (fail)
        go_wp2
        go_ret
        exact ⟨by rw [unhide HE]; rfl, belowN (belowN hbel _) _⟩

/-- nat.Cmp. -/
theorem cmp_any (a b : Option Addr) (n ca m cb : Nat) (f g : Nat → Nat) (w : World) (hs : Sl w a n f) (ht : Sl w b m g) (hf : Byt f) (hg : Byt g) (hn : n ≤ ca) (hm : m ≤ cb)
    (hca : ca ≤ 9223372036854775807) (hcb : cb ≤ 9223372036854775807) (bn : n ≤ 140737488355328) (bm : m ≤ 140737488355328) :
    Calls Taig.prog 33 #[.slice a n ca, .slice b m cb] w fun e w' => e = .returned (.int .i8 (cmpz (val f n) (val g m))) ∧ Below w.heap.size w w' := by
  have h1 := dlen_val_le hf n
  have h2 := dlen_val_le hg m
  exact cmp_core a b _ _ n ca m cb (val f n) (val g m) w (trim_any a n ca f w hs hf hn hca) (trim_any b m cb g w ht hg hm hcb) (hs.trim hf) (ht.trim hg) (by omega) (by omega)
end Go.Proofs.Ygctai
