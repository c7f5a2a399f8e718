/-
  ntt.block.
-/
import Derived.Test.YgctaiNE
import Derived.Deep.RegionWith
namespace Go.Proofs.Ygctai
open Go.RowKit
set_option linter.unusedVariables false

/-- Factors in memory: two cells each. -/
def frw (f : Nat → Nat) : Nat → Value := fun i => if i % 2 = 0 then .int .u32 (f (i / 2)) else .int .u32 (rat (f (i / 2)))
theorem frw_even (f : Nat → Nat) (i : Nat) : frw f (2 * i) = .int .u32 (f i) := by unfold frw; rw [if_pos (by omega), Nat.mul_div_cancel_left _ (by decide)]
theorem frw_odd (f : Nat → Nat) (i : Nat) : frw f (2 * i + 1) = .int .u32 (rat (f i)) := by unfold frw; rw [if_neg (by omega), show (2 * i + 1) / 2 = i by omega]

/-- What a butterfly does to an entry. -/
structure Bfm (rt lo hi lo' hi' : Nat) : Prop where
  ex : ∃ v, Eqm v (rt * hi) ∧ Eqm lo' (lo + v) ∧ Eqm (hi' + v) lo
  l1 : lo' < 3992977412
  l2 : hi' < 3992977412

set_option maxRecDepth 100000 in
set_option maxHeartbeats 2000000 in
theorem block_core (b o1 o2 b3 o3 n c1 c2 c3 : Nat) (lo hi rt : Nat → Nat) (w : World) (hlo : Row w b o1 n (wrd lo)) (hhi : Row w b o2 n (wrd hi)) (f1 : Free w b o1 n) (f2 : Free w b o2 n) (hrt : Row w b3 o3 (2 * n) (frw rt)) (hb : b3 ≠ b) (hd : o1 + n = o2)
    (h1 : ∀ j, j < n → lo j < 3992977412) (h2 : ∀ j, j < n → hi j < 3992977412) (h3 : ∀ j, j < n → rt j < 998244353) (hn : n ≤ 1048576) (hn0 : 0 < n) :
    Calls Taig.prog 172 #[.slice (some ⟨b, o1, none⟩) n c1, .slice (some ⟨b, o2, none⟩) n c2, .slice (some ⟨b3, o3, none⟩) n c3] w fun e w' => ∃ lo' hi', e = .returned (.tuple #[]) ∧ (∀ j, j < n → Bfm (rt j) (lo j) (hi j) (lo' j) (hi' j)) ∧
      Row w' b o1 n (wrd lo') ∧ Row w' b o2 n (wrd hi') ∧ Wr b o1 (o2 + n) w w' := by
  have hbl := hlo.block_lt hn0
  have H1 := hide h1
  have H2 := hide h2
  have H3 := hide h3
  clear h1 h2 h3
  go_enter Taig.func172, Taig.ntmps172
  go_wp2
  go_loopg [6] n (fun gk jv wr => ∃ (j : Nat) (lo' hi' : Nat → Nat), gk = n - j ∧ j ≤ n ∧ jv = .int .i64 j ∧ Hid (∀ i, i < j → Bfm (rt i) (lo i) (hi i) (lo' i) (hi' i)) ∧ Hid (∀ i, j ≤ i → lo' i = lo i ∧ hi' i = hi i) ∧ Row wr b o1 n (wrd lo') ∧ Row wr b o2 n (wrd hi') ∧ Wr b o1 (o2 + n) w wr)
  case atStart => exact ⟨0, lo, hi, rfl, by omega, rfl, fun i hi => absurd hi (by omega), fun i _ => ⟨rfl, rfl⟩, hlo, hhi, Wr.refl _ _ _ _⟩
  case round =>
    obtain ⟨j, lo', hi', rfl, hj, rfl, hdone, hrest, hr1, hr2, hwr⟩ := hrel
    by_cases hlt : j < n
    · have k1 := hr1.cell hlt
      have k2 := hr2.cell hlt
      have k3 := (hrt.wr hwr (.inl hb)).cell (i := 2 * j) (by omega)
      have k4 := (hrt.wr hwr (.inl hb)).cell (i := 2 * j + 1) (by omega)
      have g1 := (f1.wr hwr hbl) j hlt
      have g2 := (f2.wr hwr hbl) j hlt
      rw [frw_even] at k3
      rw [frw_odd, ← Nat.add_assoc] at k4
      rw [Nat.mul_comm 2 j] at k3 k4
      obtain ⟨e1, e2⟩ := unhide hrest j (Nat.le_refl _)
      simp only [wrd_at] at k1 k2
      rw [e1] at k1
      rw [e2] at k2
      clear e1 e2
      have a1 := unhide H1 j hlt
      have a2 := unhide H2 j hlt
      have a3 := unhide H3 j hlt
      have A1' := hide a1
      have A2' := hide a2
      have A3' := hide a3
      have aI : (lo j : Int) < 3992977412 := by omega
      clear a1 a2 a3
      go_upto_if 32 with fail
      go_cut [7] (fun uv wc => ∃ u : Nat, uv = .int .u32 u ∧ u < 1996488706 ∧ Hid (Eqm u (lo j)) ∧ wr = wc)
      case first =>
        by_cases h : 1996488706 ≤ lo j
        · have b1 : decide ((1996488706 : Int) ≤ (lo j : Int)) = true := decide_eq_true (by omega)
          have b2 : decide (1996488706 ≤ lo j) = true := decide_eq_true h
          have hI : (1996488706 : Int) ≤ (lo j : Int) := by omega
          have hE : Hid (Eqm (lo j - 1996488706) (lo j)) := by
            have := eqm_addP (lo j - 1996488706) 2
            rw [show lo j - 1996488706 + PP * 2 = lo j by show lo j - 1996488706 + 998244353 * 2 = lo j; omega] at this
            exact this.symm
          have hl : Hid (1996488706 ≤ lo j) := h
          have A1 := A1'
          first | rw [b1] | rw [b2]
          clear h b1 b2
          go_wp2
          go_meet
          case rel => exact ⟨lo j - 1996488706, int_eq (by have := unhide hl; omega), by have := unhide hl; have := unhide A1; omega, hE, rfl⟩
        · have b1 : decide ((1996488706 : Int) ≤ (lo j : Int)) = false := decide_eq_false (by omega)
          have b2 : decide (1996488706 ≤ lo j) = false := decide_eq_false h
          have hl : Hid (lo j < 1996488706) := by unfold Hid; omega
          first | rw [b1] | rw [b2]
          clear h b1 b2
          go_wp2
          go_meet
          case rel => exact ⟨lo j, rfl, hl, Eqm.refl _, rfl⟩
      case rest =>
        obtain ⟨u, rfl, hu, hu2, rfl⟩ := hcut
        have a1 := unhide A1'
        have a2 := unhide A2'
        have a3 := unhide A3'
        have KT := hide (fun wx => times_any (rt j) (hi j) wx a3 (by omega))
        unfold fac at KT
        go_wp2
        go_region_with (go_at_call 163; refine (unhide KT _).mono ?_; rintro e w' ⟨v, rfl, hv, hv2, hb5⟩)
        all_goals
          have r1 : Row w' b o1 n (wrd lo') := by refine Row.keep ?_ hb5; exact hr1
          have r2 : Row w' b o2 n (wrd hi') := by refine Row.keep ?_ hb5; exact hr2
          have w5 : Wr b o1 (o2 + n) w w' := hwr.drew.trans (Wr.of_below hb5 (Nat.lt_of_lt_of_le hbl hwr.size))
          have m1 := r1.cell hlt
          have m2 := r2.cell hlt
          have n1 := (f1.wr w5 hbl) j hlt
          have n2 := (f2.wr w5 hbl) j hlt
          have HE : Hid (Bfm (rt j) (lo j) (hi j) (u + v) (u + 1996488706 - v)) := {
            ex := ⟨v, hv2.trans (by rw [Nat.mul_comm]; exact Eqm.refl _), (unhide hu2).add (Eqm.refl v), by
              rw [Nat.sub_add_cancel (by omega)]
              exact (eqm_addP u 2).trans (unhide hu2)⟩
            l1 := by omega
            l2 := by omega }
          simp only [wrd_at] at m1 m2
          clear hv2
          go_wp2
          go_roundg (n - (j + 1))
          case measure => omega
          case rel => exact ⟨j + 1, upd lo' j (u + v), upd hi' j (u + 1996488706 - v), rfl, by omega, by go_num, fun i hi => by
            by_cases e : i = j
            · subst e; rw [upd_at, upd_at]; exact unhide HE
            · rw [upd_ne _ _ e, upd_ne _ _ e]; exact unhide hdone i (by omega), fun i hi => by rw [upd_ne _ _ (by omega), upd_ne _ _ (by omega)]; exact unhide hrest i (by omega),
            (r1.wput j _ hlt rfl (by omega)).setOther (.inr (by omega)) _, (r2.setOther (.inr (by omega)) _).wput j _ hlt rfl (by omega), (w5.setCell (by omega) (by omega) _).setCell (by omega) (by omega) _⟩
    · obtain rfl : j = n := by omega
      go_wp2
      go_end0
      exact ⟨lo', hi', rfl, unhide hdone, hr1, hr2, hwr⟩
end Go.Proofs.Ygctai
