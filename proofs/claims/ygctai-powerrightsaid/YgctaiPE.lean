/-
  mkara: halves.
-/
import Derived.Test.YgctaiPD
import Derived.Test.YgctaiNewtE
import Derived.Deep.RegionWith
import Derived.Deep.DrawnRows
namespace Go.Proofs.Ygctai
open Go.RowKit
set_option linter.unusedVariables false
attribute [local go_sem ↓] Go.wp_at_zero Go.wp_at_succ

theorem mkaraNormal_nt (a : Option Addr) (A : Nat) (w : World) (h : Nt w 0 a A) (hb : dlen A ≤ 1048576) :
    Calls Taig.prog 165 #[.slice a (dlen A) (dlen A)] w fun e w' => e = .returned (.slice a (dlen A) (dlen A)) ∧ w = w' := by
  have K := mkaraNormal_any a (dlen A) (dlen A) (dig A) w h.sl (byt_dig _) (Nat.le_refl _) (by omega)
  rwa [val_dig_dlen, h.nz] at K

set_option maxRecDepth 100000 in
set_option maxHeartbeats 400000 in
/-- mkara.halves. -/
theorem halves_any (a : Option Addr) (A h : Nat) (w : World) (ha : Nt w 0 a A) (hh : 0 < h) (hh2 : h ≤ 1048576) (hb : dlen A ≤ 1048576) :
    Calls Taig.prog 166 #[.slice a (dlen A) (dlen A), .int .i64 h] w fun e w' => ∃ c d, e = .returned (.tuple #[.slice c (dlen (A % 256 ^ h)) (dlen (A % 256 ^ h)), .slice d (dlen (A / 256 ^ h)) (dlen (A / 256 ^ h))]) ∧ Nt w' 0 c (A % 256 ^ h) ∧ Nt w' 0 d (A / 256 ^ h) ∧ Below w.heap.size w w' := by
  rcases Nat.lt_or_ge h (dlen A) with hk | hk
  · obtain ⟨b, off, rfl, hn⟩ := (ha.down (k := h)).2 hk
    obtain ⟨b2, o2, e2, _, r, f⟩ := ha.2 (by
      rcases Nat.eq_zero_or_pos A with e | e
      · rw [e, dlen_zero] at hk; omega
      · exact e)
    injection e2 with e2; injection e2 with e2 e3; subst e2; subst e3
    have hl := hide (dlen_div A h)
    have K1 : Hid (∀ wx, (∀ a, wx.cell? a = w.cell? a) → Calls Taig.prog 165 #[.slice (some ⟨b, off, none⟩) h h] wx fun e w' => e = .returned (.slice (nz (A % 256 ^ h) (some ⟨b, off, none⟩)) (dlen (A % 256 ^ h)) (dlen (A % 256 ^ h))) ∧ wx = w') := fun wx hc => by
      have := mkaraNormal_any (some ⟨b, off, none⟩) h h (dig A) wx (fun _ => ⟨_, _, rfl, fun i hi => by rw [hc]; exact r i (by omega)⟩) (byt_dig _) (Nat.le_refl _) (by omega)
      rwa [val_dig] at this
    have nlow : Nt w 0 (nz (A % 256 ^ h) (some ⟨b, off, none⟩)) (A % 256 ^ h) := by
      have := nt_of_row (byt_dig A) (Nat.zero_le b) (r.sub (m := h) (by omega)) (f.sub (m := h) (by omega))
      rwa [val_dig] at this
    have K2 : Hid (∀ wx, (∀ a, wx.cell? a = w.cell? a) → Calls Taig.prog 165 #[.slice (some ⟨b, off + h, none⟩) (dlen A - h) (dlen A - h)] wx fun e w' => e = .returned (.slice (some ⟨b, off + h, none⟩) (dlen A - h) (dlen A - h)) ∧ wx = w') := fun wx hc => by
      have hpos : 0 < A / 256 ^ h := by
        have h1 := unhide hl
        rcases Nat.eq_zero_or_pos (A / 256 ^ h) with e | e
        · rw [e, dlen_zero] at h1; omega
        · exact e
      obtain ⟨b3, o3, e3, _, r3, _⟩ := hn.2 hpos
      have := mkaraNormal_any (some ⟨b, off + h, none⟩) (dlen (A / 256 ^ h)) (dlen (A / 256 ^ h)) (dig (A / 256 ^ h)) wx (fun _ => ⟨b3, o3, e3, fun i hi => by rw [hc]; exact r3 i hi⟩) (byt_dig _) (Nat.le_refl _) (by rw [unhide hl]; omega)
      rw [val_dig_dlen, hn.nz, unhide hl] at this
      exact this
    have i1 : (0 : Int) ≤ (h : Int) := by omega
    have i2 : (h : Int) ≤ (dlen A : Int) := by omega
    have hne : ¬ (dlen A = h) := by omega
    have KA := hide (unhide K1 w.drew (fun _ => rfl))
    have KB := hide (unhide K2 w.drew (fun _ => rfl))
    clear ha K1 K2
    go_enter Taig.func166, Taig.ntmps166
    go_wp2
    go_region_with (first | (go_at_call 165; with_reducible refine (unhide KA).mono ?_; rintro e w' ⟨rfl, rfl⟩) | (go_at_call 165; with_reducible refine (unhide KB).mono ?_; rintro e w' ⟨rfl, rfl⟩))
    all_goals
      go_wp2
      go_ret2
      exact ⟨_, _, by rw [unhide hl]; rfl, nlow.drew, hn.drew, (Below.refl _ w).drew⟩
  · have e1 := hide ((ha.down (k := h)).1 hk)
    have e2 : Hid (A % 256 ^ h = A) := Nat.mod_eq_of_lt (Nat.lt_of_lt_of_le (lt_pow_dlen A) (pow256_mono hk))
    rw [unhide e1, unhide e2, dlen_zero]
    have K := hide (mkaraNormal_nt a A w ha hb)
    go_enter Taig.func166, Taig.ntmps166
    go_wp2_with fail
    refine (unhide K).mono ?_
    rintro e w' ⟨rfl, rfl⟩
    go_wp2
    go_ret2
    exact ⟨a, none, rfl, ha, Nt.nil _ _, Below.refl _ _⟩
end Go.Proofs.Ygctai
