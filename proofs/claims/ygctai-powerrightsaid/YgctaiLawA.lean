/-
  law.decimals; what a law is told of a slice that came in.
-/
import Derived.Test.YgctaiDecS
namespace Go.Proofs.Ygctai
open Go.RowKit
set_option linter.unusedVariables false

/-- A slice of bytes that came in, as a function of the place. -/
theorem sl_of_row {w : World} {a : Option Addr} {len cap : Nat} {zs : List Int}
    (h : (a = none ∧ len = 0 ∧ cap = 0 ∧ zs = []) ∨ ∃ x, a = some x ∧ len ≤ cap ∧ cap ≤ maxLen ∧ zs.length = cap ∧ (∀ i, i < zs.length → w.cell? (x.add i) = some (.int .u8 (zs.getD i 0))) ∧ ∀ n ∈ zs, (Lit.int .u8 n).wf = true) :
    ∃ f, Byt f ∧ Sl w a len f ∧ len ≤ cap ∧ cap ≤ 9223372036854775807 := by
  rcases h with ⟨rfl, rfl, rfl, rfl⟩ | ⟨x, rfl, hl, hm, hz, hc, hw⟩
  · exact ⟨fun _ => 0, byt_zero, fun h => absurd h (by decide), Nat.le_refl _, by decide⟩
  · have hb : ∀ i, i < zs.length → 0 ≤ zs.getD i 0 ∧ zs.getD i 0 < 256 := fun i hi => by
      have := hw (zs.getD i 0) (by rw [List.getD_eq_getElem?_getD, List.getElem?_eq_getElem hi]; exact List.getElem_mem hi)
      simp [Lit.wf, IntKind.min, IntKind.max, IntKind.signed, IntKind.bits] at this
      simp only [List.getD_eq_getElem?_getD]
      omega
    refine ⟨fun i => if i < zs.length then (zs.getD i 0).toNat else 0, fun i => ?_, fun hn => ?_, hl, by unfold maxLen at hm; exact hm⟩
    · dsimp only
      split
      · rename_i hi; have := hb i hi; omega
      · omega
    · obtain ⟨b, off, spot⟩ := x
      have hspot : spot = none := by simpa [Addr.add] using World.cell?_spot (hc 0 (by omega))
      subst hspot
      refine ⟨b, off, rfl, fun i hi => ?_⟩
      have h1 := hc i (by omega)
      rw [Addr.add_lit] at h1
      rw [h1, oct_at, if_pos (by omega)]
      have := hb i (by omega)
      congr 2
      omega

set_option maxHeartbeats 400000 in
theorem decimals_true (a : Option Addr) (n cap : Nat) (t : Nat → Nat) (w : World) (hs : Sl w a n t) (hd : ∀ i, i < n → Dgt (t i)) (h0 : 0 < n) (h1 : n = 1 ∨ t 0 ≠ 48) (hn : n ≤ 9223372036854775807) :
    Calls Taig.prog 18 #[.slice a n cap] w fun e w' => e = .returned (.bool true) ∧ w = w' := by
  obtain ⟨b, o, rfl, r⟩ := hs h0
  clear hs
  have c0 := r.cell (i := 0) h0
  simp only [oct_at, Nat.add_zero] at c0
  go_enter Taig.func18, Taig.ntmps18
  go_wp2
  go_loop [3] (fun i => ∃ k : Nat, k ≤ n ∧ i = .int .i64 k) (fun i => n - (intOf i).toNat)
  case atStart => exact ⟨0, Nat.zero_le _, rfl⟩
  case round =>
    obtain ⟨k, hk, rfl⟩ := hrel
    by_cases hlt : k < n
    · have c1 := r.cell hlt
      simp only [oct_at] at c1
      obtain ⟨d1, d2⟩ := hd k hlt
      clear h1
      go_wp2
      go_round
      case rel => exact ⟨k + 1, by omega, by go_num⟩
      case measure => simp [intOf]; omega
    · clear hd
      by_cases h2 : n = 1
      · have e1 : ((n : Int) == 1) = true := by simp; omega
        clear h1 h2
        go_wp2
        go_ret
        exact ⟨rfl, rfl⟩
      · have e1 : ((n : Int) == 1) = false := by simp; omega
        have e2 : (1 : Int) < (n : Int) := by omega
        have e3 : (((t 0 : Nat) : Int) != 48) = true := by rw [bne_iff_ne]; omega
        clear h1 h2
        go_wp2
        go_ret
        exact ⟨rfl, rfl⟩
end Go.Proofs.Ygctai
