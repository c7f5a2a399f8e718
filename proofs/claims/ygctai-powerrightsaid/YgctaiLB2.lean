/-
  nlong.Read.
-/
import Derived.Test.YgctaiMG
import Derived.Test.YgctaiLA2
import Derived.Test.YgctaiRead
namespace Go.Proofs.Ygctai
open Go.RowKit
set_option linter.unusedVariables false

theorem ten9 : TEN 9 < 256 ^ 4096 := by decide +kernel
/-- After k joins m pieces stand for D. -/
structure Jl (D k m : Nat) (p : Nat → Nat) : Prop where
  sum : bsv (TEN k) p m = D
  lt : ∀ i, i < m → p i < TEN k
  few : (m - 1) * 2 ^ k < 626
  pos : 0 < m
theorem Jl.k9 {D k m : Nat} {p : Nat → Nat} (h : Jl D k m p) (hm : 1 < m) : k ≤ 9 := by
  have h1 := h.few
  have h2 : 1 * 2 ^ k ≤ (m - 1) * 2 ^ k := Nat.mul_le_mul_right _ (by omega)
  rcases Nat.lt_or_ge k 10 with h3 | h3
  · omega
  · have : 2 ^ 10 ≤ 2 ^ k := Nat.pow_le_pow_right (by decide) h3
    omega
theorem Jl.len {D k m : Nat} {p : Nat → Nat} (h : Jl D k m p) (hm : 1 < m) {x : Nat} (hx : x ≤ TEN k) : dlen x ≤ 4096 := by
  rw [dlen_le_iff]
  exact Nat.lt_of_le_of_lt (Nat.le_trans hx (ten_mono (h.k9 hm))) ten9
theorem jl_step {D k m : Nat} {p : Nat → Nat} (h : Jl D k m p) (hm : 1 < m) : Jl D (k + 1) ((m + 1) / 2) (jp p m (TEN k)) := by
  have h0 := ten_pos k
  refine ⟨?_, fun i hi => ?_, ?_, by omega⟩
  · rw [ten_succ]
    rcases Nat.mod_two_eq_zero_or_one m with e | e
    · have := bsv_join (TEN k) p ((m + 1) / 2) m (by omega)
      rw [this, show 2 * ((m + 1) / 2) = m by omega]; exact h.sum
    · obtain ⟨j, rfl⟩ : ∃ j, m = 2 * j + 1 := ⟨m / 2, by omega⟩
      rw [show (2 * j + 1 + 1) / 2 = j + 1 by omega, bsv, bsv_join (TEN k) p j _ (by omega), jp, if_neg (by omega), Nat.zero_mul, Nat.add_zero, ← Nat.pow_two, ← Nat.pow_mul]
      exact h.sum
  · rw [ten_succ]
    unfold jp
    have h1 := h.lt (2 * i) (by omega)
    have h2 : (if 2 * i + 1 < m then p (2 * i + 1) else 0) ≤ TEN k - 1 := by
      split
      · rename_i h3; have := h.lt _ h3; omega
      · omega
    have h3 := Nat.mul_le_mul_right (TEN k) h2
    rw [Nat.sub_mul, Nat.one_mul] at h3
    have h4 : TEN k * 1 ≤ TEN k * TEN k := Nat.mul_le_mul_left _ h0
    omega
  · have h1 := h.few
    rw [Nat.pow_succ, Nat.mul_comm (2 ^ k) 2, ← Nat.mul_assoc]
    have : ((m + 1) / 2 - 1) * 2 * 2 ^ k ≤ (m - 1) * 2 ^ k := Nat.mul_le_mul_right _ (by omega)
    omega
theorem jl_cut {t p : Nat → Nat} {n k : Nat} (h : Cut t p n k) (h1 : n ≤ 16 * k) (h2 : 16 * k < n + 16) (h3 : n ≤ 10000) (h4 : 0 < n) : Jl (dec t n) 0 k p := by
  have hs := h.sum
  rw [show n - 16 * k = 0 by omega, dec, Nat.zero_mul, Nat.zero_add] at hs
  refine ⟨?_, fun i hi => ?_, by simp; omega, by omega⟩
  · rw [hs]; rfl
  · exact h.lt i hi



set_option maxRecDepth 100000 in
set_option maxHeartbeats 2000000 in
/-- nlong.Read: no digit. -/
theorem nlRead_bad (a : Option Addr) (n cap : Nat) (t : Nat → Nat) (w : World) (hs : Sl w a n t) (ht : Byt t) (hbad : n = 0 ∨ ∃ i, i < n ∧ ¬ Dgt (t i)) (hn : n ≤ 65536) :
    Calls Taig.prog 44 #[.slice a n cap] w fun e w' => e = .returned (.tuple #[.slice none 0 0, .bool false]) ∧ w = w' := by
  have HB := hide hbad
  clear hbad
  go_enter Taig.func44, Taig.ntmps44
  go_wp2
  go_loopg [4] n (fun gk iv wr => ∃ (i : Nat), gk = n - i ∧ i ≤ n ∧ iv = .int .i64 i ∧ Hid (∀ x, x < i → Dgt (t x)) ∧ w = wr)
  case atStart => exact ⟨0, rfl, by omega, rfl, fun x hx => absurd hx (by omega), rfl⟩
  case round =>
    obtain ⟨i, rfl, hi, rfl, hd, rfl⟩ := hrel
    by_cases hlt : i < n
    · obtain ⟨b, off, rfl, r⟩ := hs (by omega)
      have c1 := r.cell hlt
      simp only [oct_at] at c1
      have b1 := ht i
      by_cases hdi : 48 ≤ t i ∧ t i ≤ 57
      · obtain ⟨d1, d2⟩ := hdi
        go_wp2
        go_roundg (n - (i + 1))
        case measure => omega
        case rel => exact ⟨i + 1, rfl, by omega, by go_num, fun x hx => by
          by_cases e : x = i
          · subst e; exact ⟨d1, d2⟩
          · exact unhide hd x (by omega), rfl⟩
      · by_cases h48 : t i < 48
        · go_wp2
          go_ret2
          exact ⟨rfl, rfl⟩
        · have h57 : 57 < t i := by omega
          go_wp2
          go_ret2
          exact ⟨rfl, rfl⟩
    · obtain rfl : i = n := by omega
      obtain rfl : i = 0 := by
        rcases unhide HB with h | ⟨x, hx, hx2⟩
        · exact h
        · exact absurd (unhide hd x hx) hx2
      go_wp2
      go_ret2
      exact ⟨rfl, rfl⟩

set_option maxRecDepth 100000 in
set_option maxHeartbeats 2000000 in
/-- nlong.Read of digits. -/
theorem nlRead_good (a : Option Addr) (n cap : Nat) (t : Nat → Nat) (w : World) (hs : Sl w a n t) (ht : Byt t) (h0 : 0 < n) (hd : ∀ i, i < n → Dgt (t i)) (hn : n ≤ 10000) :
    Calls Taig.prog 44 #[.slice a n cap] w fun e w' => ∃ c, e = .returned (.tuple #[.slice c (dlen (dec t n)) (dlen (dec t n)), .bool true]) ∧ Nt w' 0 c (dec t n) ∧ Below w.heap.size w w' := by
  have HD := hide hd
  have e1 : ((n : Int) == 0) = false := by simp; omega
  obtain ⟨D, hD⟩ : ∃ D, Hid (dec t n = D) := ⟨_, rfl⟩
  have KC := hide (nlChunks_any a n cap t w hs ht hd (by omega))
  rw [unhide hD]
  clear hd
  go_enter Taig.func44, Taig.ntmps44
  go_wp2
  go_loopg [4] n (fun gk iv wr => ∃ (i : Nat), gk = n - i ∧ i ≤ n ∧ iv = .int .i64 i ∧ w = wr)
  case atStart => exact ⟨0, rfl, by omega, rfl, rfl⟩
  case round =>
    obtain ⟨i, rfl, hi, rfl, rfl⟩ := hrel
    by_cases hlt : i < n
    · obtain ⟨b, off, rfl, r⟩ := hs h0
      have c1 := r.cell hlt
      simp only [oct_at] at c1
      obtain ⟨d1, d2⟩ := unhide HD i hlt
      go_wp2
      go_roundg (n - (i + 1))
      case measure => omega
      case rel => exact ⟨i + 1, rfl, by omega, by go_num, rfl⟩
    · go_wp2_with fail
      refine (unhide KC).mono ?_
      rintro e w1 ⟨d1, k1, cp1, p1, rfl, hpc1, hk1, hcut1, hk2, hb1⟩
      have hj1 : Hid (Jl D 0 k1 p1) := by
        have := jl_cut hcut1 hk2 hk1 hn h0
        rwa [unhide hD] at this
      have s1 := hb1.size
      clear hcut1
      go_wp2_with fail
      refine (nlSmall_any 10000000000000000 (by omega) w1).mono ?_
      rintro e w2 ⟨ta, rfl, hta, hb2⟩
      have s2 := hb2.size
      have hpc2 := hpc1.keep hb2
      have hb12 := hb1.trans (hb2.mono s1)
      obtain ⟨T0, h16, h17⟩ : ∃ T0, 10000000000000000 = T0 ∧ Hid (T0 = TEN 0) := ⟨_, rfl, ten_zero⟩
      have hkk : k1 ≤ 700 := by omega
      rw [h16] at hta ⊢
      clear hb1 hb2 hpc1 hk1 hk2 h16
      go_wp2
      go_loopg [5, 6] k1 (fun gm pv tv wr => ∃ (m k cp T : Nat) (d ta : Option Addr) (p : Nat → Nat), m = gm ∧ m ≤ 700 ∧ pv = .slice d m cp ∧ tv = .slice ta (dlen T) (dlen T) ∧ Hid (1 < m → T = TEN k) ∧ Hid (Jl D k m p) ∧ Pc wr w.heap.size d m cp p ∧ Nt wr 0 ta T ∧ Below w.heap.size w wr)
      case atStart => exact ⟨k1, 0, cp1, T0, d1, ta, p1, rfl, hkk, rfl, rfl, fun _ => h17, hj1, hpc2, hta.mono (Nat.zero_le _), hb12⟩
      case round =>
        obtain ⟨wo, rfl⟩ : ∃ x, x = wr := ⟨wr, rfl⟩
        obtain ⟨m, k, cp, T, d, ta, p, rfl, hm, rfl, rfl, hT, hj, hpc, hta, hb⟩ := hrel
        clear hpc2 hb12 hj1 KC
        by_cases h1m : 1 < m
        · have m1 : decide (1 < m) = true := decide_eq_true h1m
          have m2 : decide ((1 : Int) < (m : Int)) = true := by simp; omega
          have hTk := hide (unhide hT h1m)
          have hj' := jl_step (unhide hj) h1m
          rw [← unhide hTk] at hj'
          have HJ' := hide hj'
          have L1 : Hid (∀ i, i < m → dlen (p i) ≤ 4096) := fun i hi => (unhide hj).len h1m (Nat.le_of_lt ((unhide hj).lt i hi))
          have L2 : dlen T ≤ 4096 := (unhide hj).len h1m (by rw [unhide hTk]; exact Nat.le_refl _)
          have hmk : ∀ w, (Instr.makeSlice 66 (.int .i64 0) (.int .i64 (((m : Int) + 1) / 2))).run Taig.prog w = .ok (.slice (some ⟨w.heap.size, 0, none⟩) 0 ((m + 1) / 2)) (w.alloc (made (.slice none 0 0) ((m + 1) / 2) 23)) := fun w => make66cap ((m + 1) / 2) (by omega) w
          have s0 := hb.size
          clear hj hj' hT
          go_wp2
          clear hmk
          go_loopg [7, 8] m (fun gj nv iv wi => ∃ (j c2 : Nat) (d2 : Option Addr), gj = m - 2 * j ∧ 2 * j ≤ m + 1 ∧ nv = .slice d2 j c2 ∧ iv = .int .i64 (2 * (j : Int)) ∧ Pc wi wo.heap.size d2 j c2 (jp p m T) ∧ Below wo.heap.size wo wi)
          case atStart => exact ⟨0, _, _, rfl, by omega, rfl, rfl, pc_made _ _ _ _ _ _ (Nat.le_refl _), below_alloc _ _⟩
          case round =>
            obtain ⟨j, c2, d2, rfl, hj2, rfl, rfl, hpc3, hb3⟩ := hrel
            have s3 := hb3.size
            by_cases hjm : 2 * j < m
            · obtain ⟨b, ad1, rfl, c1, n1⟩ := hpc.at (i := 2 * j) hjm
              have c1' : wr.cell? ⟨b, 2 * j, none⟩ = some (.slice ad1 (dlen (p (2 * j))) (dlen (p (2 * j)))) := by rw [hb3.cell (World.block_lt_of_cell? _ _ c1)]; exact c1
              have l1 := unhide L1 _ hjm
              obtain ⟨V, hV⟩ : ∃ V, Hid (jp p m T j = V) := ⟨_, rfl⟩
              go_upto_if 56 with fail
              go_cut [9] (fun qv wc => ∃ q, qv = .slice q (dlen V) (dlen V) ∧ Nt wc 0 q V ∧ (∀ b o y, q = some ⟨b, o, y⟩ → b < wo.heap.size ∨ wr.heap.size ≤ b) ∧ Below wr.heap.size wr wc)
              case first =>
                by_cases hl : 2 * j + 1 < m
                · obtain ⟨b', ad2, eb, c2, n2⟩ := hpc.at (i := 2 * j + 1) hl
                  injection eb with eb; injection eb with eb; subst eb
                  have c2' : wr.cell? ⟨b, 2 * j + 1, none⟩ = some (.slice ad2 (dlen (p (2 * j + 1))) (dlen (p (2 * j + 1)))) := by rw [hb3.cell (World.block_lt_of_cell? _ _ c2)]; exact c2
                  have hjv : Hid (p (2 * j) + p (2 * j + 1) * T = V) := by rw [← unhide hV]; unfold jp; rw [if_pos hl]; rfl
                  have l2 := unhide L1 _ hl
                  have KM := hide (mulLong_any ad2 ta (p (2 * j + 1)) T (dlen (p (2 * j + 1))) (dlen T) wr ((n2.keep hb3).mono (Nat.zero_le _)) (hta.keep hb3) (by omega) (by omega) (Nat.le_refl _) (Nat.le_refl _) (by omega) (by omega))
                  have hlen : dlen (p (2 * j + 1) * T) ≤ 4096 + 4096 := dlen_mul_le l2 L2
                  have hn1 := n1.keep hb3
                  clear c1 c2 hV L1
                  generalize p (2 * j) = P0 at *
                  generalize p (2 * j + 1) = P1 at *
                  generalize P1 * T = PT at *
                  go_wp2_with fail
                  refine (unhide KM).mono ?_
                  rintro e w4 ⟨q, rfl, hq, hb4⟩
                  have s4 := hb4.size
                  have K2 := add_any ad1 q _ (dlen P0) _ (dlen PT) _ _ w4 (hn1.keep hb4).sl hq.sl (byt_dig _) (byt_dig _) (Nat.le_refl _) (Nat.le_refl _) (by omega) (by omega) (by omega) (by omega)
                  rw [val_dig_dlen, val_dig_dlen, unhide hjv] at K2
                  have HK2 := hide K2
                  clear K2
                  go_wp2_with fail
                  refine (unhide HK2).mono ?_
                  rintro e w5 ⟨q2, rfl, hq2, hb5⟩
                  go_wp2
                  go_meet
                  case rel => exact ⟨q2, rfl, hq2.mono (Nat.zero_le _), fun b o y e => .inr (by have := (hq2.block b o y e).1; omega), hb4.trans (hb5.mono s4)⟩
                · have hjv : p (2 * j) = V := by rw [← unhide hV]; unfold jp; rw [if_neg hl, Nat.zero_mul, Nat.add_zero]
                  rw [hjv] at n1 ⊢
                  clear hjv hV
                  go_wp2
                  go_meet
                  case rel => exact ⟨ad1, rfl, (n1.keep hb3).mono (Nat.zero_le _), fun b o y e => .inl (n1.block b o y e).2, Below.refl _ _⟩
              case rest =>
                obtain ⟨q, rfl, hq, hqb, hb4⟩ := hcut
                have s4 := hb4.size
                have hba := below_alloc wc (.cells #[.slice q (dlen V) (dlen V)] 23)
                obtain ⟨d', c', w5, hr, hpc5, hg, hd'⟩ := pc_append (wc.alloc (.cells #[.slice q (dlen V) (dlen V)] 23)) wo.heap.size d2 j c2 (jp p m T) ((hpc3.keep hb4).keep hba) wc.heap.size V q (by rw [World.cell?_alloc_at _ _ _ _ rfl]; rfl) (hq.keep hba)
                  (fun b o y e1 e2 => by
                    have h1 := hpc3.block b e1
                    have h2 := hqb b o y e2
                    omega) (by omega) (by simp; omega)
                have hb5 := hg.below ((hb3.trans (hb4.mono s3)).trans (hba.mono (by omega))) (by simp; omega) (fun k hk e => by have := (hpc3.block k e).1; omega)
                have hpc6 := hpc5.congr (q := jp p m T) (fun i hi => by
                  by_cases e : i = j
                  · rw [e, upd_at, unhide hV]
                  · rw [upd_ne _ _ e])
                clear hV
                go_wp2_with (at_builtin; refine wpList_append_run rfl _ _ 66 rfl _ _ _ rfl rfl hr ?_)
                go_roundg (m - 2 * (j + 1))
                case measure => omega
                case rel => exact ⟨j + 1, c', d', rfl, by omega, rfl, int_eq (by omega), hpc6, hb5⟩
            · have hjm2 : Hid ((m + 1) / 2 = j) := by unfold Hid; omega
              have HJ2 := unhide HJ'
              rw [unhide hjm2] at HJ2
              have HJ3 := hide HJ2
              have hj3 : j < m := by omega
              clear HJ2 HJ' hjm2
              by_cases hj1 : 1 < j
              · have KM := hide (mulLong_any ta ta T T (dlen T) (dlen T) wr (hta.keep hb3) (hta.keep hb3) (by omega) (by omega) (Nat.le_refl _) (Nat.le_refl _) (by omega) (by omega))
                have hTT : Hid (T * T = TEN (k + 1)) := by unfold Hid; rw [ten_succ, unhide hTk]
                clear hTk
                generalize T * T = TT at *
                go_wp2_with fail
                refine (unhide KM).mono ?_
                rintro e w4 ⟨q, rfl, hq, hb4⟩
                go_wp2
                go_roundg j
                case measure => omega
                case rel => exact ⟨j, k + 1, c2, TT, d2, q, jp p m T, rfl, by omega, rfl, rfl, fun _ => hTT, HJ3, (hpc3.keep hb4).mono s0, hq.mono (Nat.zero_le _), (hb.trans (hb3.mono s0)).trans (hb4.mono (by omega))⟩
              · go_wp2
                go_roundg j
                case measure => omega
                case rel => exact ⟨j, k + 1, c2, T, d2, ta, jp p m T, rfl, by omega, rfl, rfl, fun h => absurd h hj1, HJ3, hpc3.mono s0, hta.keep hb3, hb.trans (hb3.mono s0)⟩
        · have hm1 : m = 1 := by have := (unhide hj).pos; omega
          subst hm1
          have hp0 : p 0 = D := by have := (unhide hj).sum; simpa [bsv] using this
          obtain ⟨b0, ad, rfl, c0, n0⟩ := hpc.at (i := 0) (by omega)
          rw [hp0] at c0 n0
          clear hp0 hj hT
          go_wp2
          go_ret2
          exact ⟨ad, rfl, n0.mono (Nat.zero_le _), hb⟩
end Go.Proofs.Ygctai
