/-
  nlong: small, chunks.
-/
import Derived.Test.YgctaiChunks
namespace Go.Proofs.Ygctai
open Go.RowKit
set_option linter.unusedVariables false

set_option maxRecDepth 100000 in
set_option maxHeartbeats 1000000 in
/-- nlong.small. -/
theorem nlSmall_any (v : Nat) (hv : v < 18446744073709551616) (w : World) :
    Calls Taig.prog 77 #[.int .u64 v] w fun e w' => ∃ c, e = .returned (.slice c (dlen v) (dlen v)) ∧ Nt w' w.heap.size c v ∧ Below w.heap.size w w' := by
  have hmk : ∀ w, (Instr.makeSlice 23 (.int .i64 8) (.int .i64 8)).run Taig.prog w = .ok (.slice (some ⟨w.heap.size, 0, none⟩) 8 8) (w.alloc (made (.int .u8 0) 8 5)) := fun w => make23 8 (by omega) w
  go_enter Taig.func77, Taig.ntmps77
  go_wp2
  go_loopg [4] 8 (fun gk i wr => ∃ (k : Nat) (g : Nat → Nat), gk = 8 - k ∧ k ≤ 8 ∧ i = .int .i64 k ∧ Byt g ∧ Hid (∀ x, x < k → g x = dig v x) ∧ Row wr w.heap.size 0 8 (oct g) ∧ Free wr w.heap.size 0 8 ∧ Below w.heap.size w wr)
  case atStart => exact ⟨0, fun _ => 0, rfl, by omega, rfl, byt_zero, fun x hx => absurd hx (by omega), row_made _ _ _ _, free_made _ _ _ _, below_alloc _ _⟩
  case round =>
    clear hmk
    obtain ⟨k, g, rfl, hk, rfl, hg, hlow, hrow, hfree, hbel⟩ := hrel
    by_cases hlt : k < 8
    · have c1 := hrow.cell (i := k) hlt
      have f1 := hfree k hlt
      simp only [Nat.zero_add, oct_at] at c1 f1
      go_wp2
      go_roundg (8 - (k + 1))
      case measure => omega
      case rel => exact ⟨k + 1, upd g k (dig v k), rfl, by omega, by go_num, hg.upd _ _ (dig_lt _ _), fun x hx => by
        by_cases e : x = k
        · rw [e, upd_at]
        · rw [upd_ne _ _ e]; exact unhide hlow x (by omega), hrow.put k _ hlt (by omega) (shr_dig v k), hfree.setCell _ _, hbel.setCell (Nat.le_refl _) _⟩
    · have hv8 : val g 8 = v := by
        have e8 : k = 8 := by omega
        subst e8
        have := val_congr 8 (fun i hi => unhide hlow i hi)
        rw [this, val_dig]; exact Nat.mod_eq_of_lt hv
      have K := nlongNormal_any (some ⟨w.heap.size, 0, none⟩) 8 8 g wr (fun _ => ⟨_, _, rfl, hrow⟩) hg (Nat.le_refl _) (by decide)
      have hN := nt_of_row hg (Nat.le_refl _) hrow hfree
      rw [hv8] at K hN
      have HK := hide K
      clear K hv8 hlow hrow hfree
      go_wp2_with fail
      refine (unhide HK).mono ?_
      rintro e w2 ⟨rfl, rfl⟩
      go_wp2
      go_ret
      exact ⟨_, rfl, hN, hbel⟩

set_option maxRecDepth 100000 in
set_option maxHeartbeats 2000000 in
/-- nlong.chunks: the decimals in pieces of sixteen. -/
theorem nlChunks_any (a : Option Addr) (n cap : Nat) (t : Nat → Nat) (w : World) (hs : Sl w a n t) (ht : Byt t) (hd : ∀ i, i < n → Dgt (t i)) (hn : n ≤ 65536) :
    Calls Taig.prog 82 #[.slice a n cap] w fun e w' => ∃ d k c p, e = .returned (.slice d k c) ∧ Pc w' w.heap.size d k c p ∧ 16 * k < n + 16 ∧ Cut t p n k ∧ n ≤ 16 * k ∧ Below w.heap.size w w' := by
  have HD := hide hd
  clear hd
  have hmk : ∀ w, (Instr.makeSlice 66 (.int .i64 0) (.int .i64 ((n : Int) / 16 + 1))).run Taig.prog w = .ok (.slice (some ⟨w.heap.size, 0, none⟩) 0 (n / 16 + 1)) (w.alloc (made (.slice none 0 0) (n / 16 + 1) 23)) := fun w => make66cap (n / 16 + 1) (by omega) w
  go_enter Taig.func82, Taig.ntmps82
  go_wp2
  go_loopg [3, 4] n (fun gk ov ev wr => ∃ (k c : Nat) (d : Option Addr) (p : Nat → Nat), gk = n - 16 * k ∧ 16 * k < n + 16 ∧ ev = .int .i64 ((n : Int) - 16 * (k : Int)) ∧ ov = .slice d k c ∧ Pc wr w.heap.size d k c p ∧ Hid (Cut t p n k) ∧ Below w.heap.size w wr)
  case atStart => exact ⟨0, _, _, fun _ => 0, by omega, by omega, by simp, rfl, pc_made _ _ _ _ _ _ (Nat.le_refl _), chop_zero _ _ _, below_alloc _ _⟩
  case round =>
    clear hmk
    obtain ⟨k, c, d, p, rfl, hk, rfl, rfl, hpc, hch, hb1⟩ := hrel
    by_cases hlt : 16 * k < n
    · obtain ⟨E, hE⟩ : ∃ E, Hid (E = n - 16 * k) := ⟨n - 16 * k, hide rfl⟩
      obtain ⟨lo, hlo⟩ : ∃ lo, Hid (lo = n - 16 * k - 16) := ⟨n - 16 * k - 16, hide rfl⟩
      have hE1 : (n : Int) - 16 * (k : Int) = (E : Int) := by have := unhide hE; omega
      have hE0 : 0 < E := by have := unhide hE; omega
      have hEn : E ≤ n := by have := unhide hE; omega
      have hlE : lo ≤ E := by have := unhide hE; have := unhide hlo; omega
      have hlE2 : E ≤ lo + 16 := by have := unhide hE; have := unhide hlo; omega
      have hlo2 : lo = E - 16 := by have := unhide hE; have := unhide hlo; omega
      have HLO2 := hide hlo2
      have HK := hide hk
      have HLT := hide hlt
      rw [hE1]
      clear hE1 hlo2 hk hlt
      go_upto_if 21 with fail
      go_cut [6] (fun iv wc => iv = .int .i64 lo ∧ wr = wc)
      case first =>
        by_cases h : E < 16
        · go_wp2
          go_meet
          case rel => exact ⟨int_eq (by have := unhide HLO2; omega), rfl⟩
        · go_wp2
          go_meet
          case rel => exact ⟨int_eq (by have := unhide HLO2; omega), rfl⟩
      case rest =>
        obtain ⟨rfl, rfl⟩ := hcut
        go_wp2
        go_loopg [5, 6] (E - lo) (fun gj vv iv wi => ∃ (j v : Nat), gj = E - j ∧ lo ≤ j ∧ j ≤ E ∧ iv = .int .i64 j ∧ vv = .int .u64 v ∧ Hid (Seg t lo j v) ∧ wr = wi)
        case atStart => exact ⟨lo, 0, rfl, Nat.le_refl _, hlE, rfl, rfl, seg_start _ _, rfl⟩
        case round =>
          obtain ⟨j, v, rfl, hj1, hj2, rfl, rfl, hseg, rfl⟩ := hrel
          by_cases hjE : j < E
          · have hv := seg_lt' (unhide hseg) (by omega)
            obtain ⟨b, off, rfl, r⟩ := (hs.keep hb1) (by omega)
            have c1 := r.cell (i := j) (by omega)
            have hdj := unhide HD j (by omega)
            have hseg2 := hide (seg_step (unhide hseg) hdj)
            obtain ⟨d1, d2⟩ := hdj
            simp only [oct_at] at c1
            go_wp2
            go_roundg (E - (j + 1))
            case measure => omega
            case rel => exact ⟨j + 1, 10 * v + (t j - 48), rfl, by omega, by omega, by go_num, int_eq (by omega), hseg2, rfl⟩
          · obtain rfl : j = E := by omega
            have hv := seg_lt (unhide hseg) (by omega)
            have HC := hide (chop_step (unhide hch) (unhide HLT) (by rw [← unhide hlo, ← unhide hE]; exact unhide hseg))
            clear hseg hch
            go_wp2_with fail
            refine (nlSmall_any v (by omega) wr).mono ?_
            rintro e w2 ⟨q, rfl, hq, hb2⟩
            have s1 := hb1.size
            have s2 := hb2.size
            have hba := below_alloc w2 (.cells #[.slice q (dlen v) (dlen v)] 23)
            have hpc2 := hpc.keep hb2
            obtain ⟨d', c', w3, hr, hpc3, hg, hd'⟩ := pc_append (w2.alloc (.cells #[.slice q (dlen v) (dlen v)] 23)) w.heap.size d k c p (hpc2.keep hba) w2.heap.size v q (by rw [World.cell?_alloc_at _ _ _ _ rfl]; rfl) ((hq.keep hba).mono (by omega))
              (fun b o y e1 e2 => by
                have h1 := (hpc.block b e1).2
                rcases Nat.eq_zero_or_pos v with h0 | h0
                · rw [hq.1 h0] at e2; cases e2
                · obtain ⟨b', o', e', hB', _⟩ := hq.2 h0
                  rw [e'] at e2
                  injection e2 with e2; injection e2 with e2; omega) (by have := unhide HK; omega) (by simp; omega)
            have hb3 := hg.below (hb1.trans (hb2.mono s1) |>.trans (hba.mono (by omega))) (by simp; omega) (fun k hk e => by have := (hpc.block k e).1; omega)
            go_wp2_with (at_builtin; refine wpList_append_run rfl _ _ 66 rfl _ _ _ rfl rfl hr ?_)
            go_roundg (n - 16 * (k + 1))
            case measure => have := unhide hE; omega
            case rel => exact ⟨k + 1, c', d', upd p k v, rfl, by have := unhide HLT; omega, int_eq (by have := unhide hE; have := unhide HLT; omega), rfl, hpc3, HC, hb3⟩
    · go_wp2
      go_ret
      exact ⟨d, k, c, p, rfl, hpc, hk, hch, by omega, hb1⟩
end Go.Proofs.Ygctai
