/-
  newton.split.
-/
import Derived.Test.YgctaiPow
namespace Go.Proofs.Ygctai
open Go.RowKit
set_option linter.unusedVariables false

/-- 'append(out, x, y)' where there is room. -/
theorem pc_append2 (w : World) (B : Nat) (a : Option Addr) (n cap : Nat) (p : Nat → Nat) (h : Pc w B a n cap p) (g N M : Nat) (d e : Option Addr) (hc1 : w.cell? ⟨g, 0, none⟩ = some (.slice d (dlen N) (dlen N))) (hc2 : w.cell? ⟨g, 1, none⟩ = some (.slice e (dlen M) (dlen M)))
    (hN : Nt w 0 d N) (hM : Nt w 0 e M) (hd : ∀ b o x, a = some ⟨b, 0, none⟩ → d ≠ some ⟨b, o, x⟩) (he : ∀ b o x, a = some ⟨b, 0, none⟩ → e ≠ some ⟨b, o, x⟩) (hroom : n + 2 ≤ cap) :
    ∃ w', (Builtin.append_ #[66, 66] 66 #[.slice a n cap, .slice (some ⟨g, 0, none⟩) 2 2]).run Taig.prog w = .ok (.slice a (n + 2) cap) w' ∧ Pc w' B a (n + 2) cap (upd (upd p n N) (n + 1) M) ∧ Grew a w w' := by
  obtain ⟨c, ⟨_, ⟨rfl, h0⟩ | ⟨b, rfl, hB, hl, r, f⟩⟩, hp⟩ := h
  · omega
  obtain ⟨i, hi, hz, hs, hby⟩ := info_parts Taig.info23
  have hr := run_append_room_cells (P := Taig.prog) w 66 66 23 i Taig.underlying66 hi b 0 n cap ⟨g, 0, none⟩ 2 2 [.slice d (dlen N) (dlen N), .slice e (dlen M) (dlen M)] (by simp [hs]) (fun j v hj => by
      match j, hj with
      | 0, hj => simp at hj; subst hj; exact hc1
      | 1, hj => simp at hj; subst hj; exact hc2) (fun v hv => by
      simp at hv
      rcases hv with rfl | rfl <;> rfl) hroom
    (fun j hj => by simp at hj; rw [hs, Nat.mul_one, Nat.zero_add]; have := r (n + j) (by omega); rw [Nat.zero_add] at this; rw [this]; rfl)
    (fun j hj => by simp at hj; rw [hs, Nat.mul_one, Nat.zero_add]; have := f (n + j) (by omega); rwa [Nat.zero_add] at this)
  rw [hs, Nat.mul_one] at hr
  have r1 := r.setCell (i := n) (by omega) (.slice d (dlen N) (dlen N))
  have r2 := r1.setCell (i := n + 1) (by omega) (.slice e (dlen M) (dlen M))
  have hg : Grew (some ⟨b, 0, none⟩) w ((w.setCell ⟨b, 0 + n, none⟩ (.slice d (dlen N) (dlen N))).setCell ⟨b, 0 + (n + 1), none⟩ (.slice e (dlen M) (dlen M))) :=
    ⟨rfl, rfl, rfl, by simp, fun k hk hne => by
      have hkb : k ≠ b := fun h => hne (by rw [h])
      rw [Below.heap_setCell _ _ _ _ hkb, Below.heap_setCell _ _ _ _ hkb]⟩
  refine ⟨_, hr, ⟨_, ⟨hroom, .inr ⟨b, rfl, hB, Nat.lt_of_lt_of_le hl hg.size, r2, (f.setCell _ _).setCell _ _⟩⟩, fun j hj => ?_⟩, hg⟩
  by_cases e1 : j = n + 1
  · subst e1
    rw [upd_at, upd_at]
    exact ⟨e, rfl, hM.grew hg he, he⟩
  · rw [upd_ne _ _ e1, upd_ne _ _ e1]
    by_cases e2 : j = n
    · subst e2
      rw [upd_at, upd_at]
      exact ⟨d, rfl, hN.grew hg hd, hd⟩
    · rw [upd_ne _ _ e2, upd_ne _ _ e2]
      obtain ⟨ad, e3, hn, hx⟩ := hp j (by omega)
      exact ⟨ad, e3, hn.grew hg hx, hx⟩

/-- Remainders and quotients in turn. -/
def sp (p : Nat → Nat) (T j : Nat) : Nat := if j % 2 = 0 then p (j / 2) % T else p (j / 2) / T
theorem sp_even (p : Nat → Nat) (T i : Nat) : sp p T (2 * i) = p i % T := by unfold sp; rw [if_pos (by omega), Nat.mul_div_cancel_left _ (by decide)]
theorem sp_odd (p : Nat → Nat) (T i : Nat) : sp p T (2 * i + 1) = p i / T := by unfold sp; rw [if_neg (by omega), show (2 * i + 1) / 2 = i by omega]
theorem bsv_sp (p : Nat → Nat) (T : Nat) : ∀ n, bsv T (sp p T) (2 * n) = bsv (T * T) p n
  | 0 => rfl
  | n + 1 => by
    rw [show 2 * (n + 1) = 2 * n + 1 + 1 by omega, bsv, bsv, bsv_sp p T n, bsv, sp_even, sp_odd, Nat.pow_succ, Nat.mul_pow, ← Nat.pow_add, show n + n = 2 * n by omega, ← Nat.mul_assoc, Nat.mul_right_comm (p n / T), Nat.add_assoc, ← Nat.add_mul]
    congr 2
    have := Nat.div_add_mod (p n) T
    rw [Nat.mul_comm] at this
    omega
theorem sp_upd {p : Nat → Nat} {T i : Nat} {N M : Nat} (h1 : N = p i % T) (h2 : M = p i / T) : ∀ j, j < 2 * i + 2 → upd (upd (sp p T) (2 * i) N) (2 * i + 1) M j = sp p T j := fun j hj => by
  by_cases e1 : j = 2 * i + 1
  · rw [e1, upd_at, sp_odd, h2]
  · rw [upd_ne _ _ e1]
    by_cases e2 : j = 2 * i
    · rw [e2, upd_at, sp_even, h1]
    · rw [upd_ne _ _ e2]

set_option maxRecDepth 100000 in
set_option maxHeartbeats 4000000 in
/-- newton.split. -/
theorem split_any (B : Nat) (a ta : Option Addr) (n cap : Nat) (p : Nat → Nat) (T : Nat) (w : World) (hpc : Pc w B a n cap p) (hT : Nt w 0 ta T) (hT0 : 0 < T) (lT : dlen T ≤ 512) (lp : ∀ i, i < n → dlen (p i) ≤ 512) (hn : n ≤ 1024) :
    Calls Taig.prog 61 #[.slice a n cap, .slice ta (dlen T) (dlen T)] w fun e w' => ∃ d c, e = .returned (.tuple #[.slice d (2 * n) c, .bool true]) ∧ Pc w' w.heap.size d (2 * n) c (sp p T) ∧ Below w.heap.size w w' := by
  have HP := hide lp
  have HT0 := hide hT0
  have hd0 := dlen_pos hT0
  clear lp
  go_enter Taig.func61, Taig.ntmps61
  go_upto_if 17 with fail
  go_cut [6] (fun nv wc => ∃ (N : Nat), nv = .int .i64 N ∧ dlen T ≤ N ∧ N ≤ 512 ∧ w = wc)
  case first =>
    by_cases h : 512 < 2 * dlen T
    · go_wp2
      go_meet
      case rel => exact ⟨512, rfl, lT, Nat.le_refl _, rfl⟩
    · go_wp2
      go_meet
      case rel => exact ⟨2 * dlen T, int_eq (by omega), by omega, by omega, rfl⟩
  case rest =>
    obtain ⟨N, rfl, hN1, hN2, rfl⟩ := hcut
    have hmk : ∀ w, (Instr.makeSlice 66 (.int .i64 0) (.int .i64 (2 * (n : Int)))).run Taig.prog w = .ok (.slice (some ⟨w.heap.size, 0, none⟩) 0 (2 * n)) (w.alloc (made (.slice none 0 0) (2 * n) 23)) := fun w => make66cap (2 * n) (by omega) w
    go_wp2_with fail
    refine (reciprocal_any ta T N w hT hT0 hN1 hN2).mono ?_
    rintro e w1 ⟨x, X, rfl, hx, hX, lX, hb1⟩
    have s1 := hb1.size
    have HX := hide hX
    clear hX hT0
    go_wp2
    clear hmk
    go_loopg [8, 9] n (fun gk ov iv wr => ∃ (i : Nat), gk = n - i ∧ i ≤ n ∧ iv = .int .i64 i ∧ ov = .slice (some ⟨w1.heap.size, 0, none⟩) (2 * i) (2 * n) ∧ Pc wr w1.heap.size (some ⟨w1.heap.size, 0, none⟩) (2 * i) (2 * n) (sp p T) ∧ Below w1.heap.size w1 wr)
    case atStart => exact ⟨0, rfl, by omega, rfl, rfl, pc_made _ _ _ _ _ _ (Nat.le_refl _), below_alloc _ _⟩
    case round =>
      obtain ⟨i, rfl, hi, rfl, rfl, hpc2, hbel⟩ := hrel
      have sb := hbel.size
      by_cases hlt : i < n
      · obtain ⟨b, ad, rfl, c0, n0⟩ := hpc.at hlt
        have hb2 := hb1.trans (hbel.mono s1)
        have c1 : wr.cell? ⟨b, i, none⟩ = some (.slice ad (dlen (p i)) (dlen (p i))) := by rw [hb2.cell (World.block_lt_of_cell? _ _ c0)]; exact c0
        have n1 := n0.keep hb2
        have lpi := unhide HP i hlt
        have KC := cmp_any ad ta _ (dlen (p i)) _ (dlen T) _ _ wr n1.sl (hT.keep hb2).sl (byt_dig _) (byt_dig _) (Nat.le_refl _) (Nat.le_refl _) (by omega) (by omega) (by omega) (by omega)
        rw [val_dig_dlen, val_dig_dlen] at KC
        rcases Nat.lt_or_ge (p i) T with hpT | hpT
        · rw [cmpz_lt hpT] at KC
          have HKC := hide KC
          have hsp := sp_upd (p := p) (T := T) (i := i) (N := p i) (M := 0) (Nat.mod_eq_of_lt hpT).symm (Nat.div_eq_of_lt hpT).symm
          have HSP := hide hsp
          clear KC hsp hpT c0
          generalize p i = PI at *
          go_wp2_with fail
          refine (unhide HKC).mono ?_
          rintro e w3 ⟨rfl, hb3⟩
          have s3 := hb3.size
          have c3 : w3.cell? ⟨b, i, none⟩ = some (.slice ad (dlen PI) (dlen PI)) := by rw [hb3.cell (World.block_lt_of_cell? _ _ c1)]; exact c1
          have hba := below_alloc w3 (.cells #[.slice ad (dlen PI) (dlen PI), .slice none 0 0] 23)
          obtain ⟨w4, hr, hpc4, hg⟩ := pc_append2 (w3.alloc (.cells #[.slice ad (dlen PI) (dlen PI), .slice none 0 0] 23)) w1.heap.size (some ⟨w1.heap.size, 0, none⟩) (2 * i) (2 * n) (sp p T) ((hpc2.keep hb3).keep hba) w3.heap.size PI 0 ad none
            (by rw [World.cell?_alloc_at _ _ _ _ rfl]; rfl) (by rw [World.cell?_alloc_at _ _ _ _ rfl]; rfl) ((n1.keep hb3).keep hba) (Nt.nil _ _)
            (fun b' o y e1 e2 => by
              injection e1 with e1; injection e1 with e1
              have := (n0.block b' o y e2).2
              omega) (fun b' o y e1 e2 => by cases e2) (by omega)
          have hb4 := hg.below ((hbel.trans (hb3.mono sb)).trans (hba.mono (by omega))) (by simp; omega) (fun k hk e => by injection e with e; injection e with e; omega)
          have hpc5 := hpc4.congr (unhide HSP)
          clear hpc4
          go_wp2_with (at_builtin; refine wpList_append_run rfl _ _ 66 rfl _ _ _ rfl rfl hr ?_)
          go_roundg (n - (i + 1))
          case measure => omega
          case rel => exact ⟨i + 1, rfl, by omega, by go_num, rfl, hpc5, hb4⟩
        · have hc0 : 0 ≤ cmpz (p i) T ∧ cmpz (p i) T ≤ 1 := by
            unfold cmpz; rw [if_neg (by omega)]; split <;> simp
          obtain ⟨hc1, hc2⟩ := hc0
          have HKC := hide KC
          have HSP := hide (sp_upd (p := p) (T := T) (i := i) (N := p i % T) (M := p i / T) rfl rfl)
          have KD := fun w3 (h3 : Below wr.heap.size wr w3) => divide_any ad ta x (p i) T X N w3 (n1.keep h3) ((hT.keep hb2).keep h3) ((hx.keep hbel).keep h3) (unhide HT0) (unhide HX) lpi lT lX (by omega)
          have HKD := hide KD
          clear KC KD hpT c0
          generalize cmpz (p i) T = cz at *
          generalize p i % T = RR at *
          generalize p i / T = QQ at *
          generalize p i = PI at *
          go_wp2_with fail
          refine (unhide HKC).mono ?_
          rintro e w3 ⟨rfl, hb3⟩
          have s3 := hb3.size
          have c3 : w3.cell? ⟨b, i, none⟩ = some (.slice ad (dlen PI) (dlen PI)) := by rw [hb3.cell (World.block_lt_of_cell? _ _ c1)]; exact c1
          go_wp2_with fail
          refine (unhide HKD w3 hb3).mono ?_
          rintro e w4 ⟨q, r, rfl, hq, hr', hb4⟩
          have s4 := hb4.size
          have hba := below_alloc w4 (.cells #[.slice r (dlen RR) (dlen RR), .slice q (dlen QQ) (dlen QQ)] 23)
          have hbl := (hpc2.block w1.heap.size rfl).2
          obtain ⟨w5, hr, hpc4, hg⟩ := pc_append2 (w4.alloc (.cells #[.slice r (dlen RR) (dlen RR), .slice q (dlen QQ) (dlen QQ)] 23)) w1.heap.size (some ⟨w1.heap.size, 0, none⟩) (2 * i) (2 * n) (sp p T) (((hpc2.keep hb3).keep hb4).keep hba) w4.heap.size RR QQ r q
            (by rw [World.cell?_alloc_at _ _ _ _ rfl]; rfl) (by rw [World.cell?_alloc_at _ _ _ _ rfl]; rfl) ((hr'.keep hba).mono (Nat.zero_le _)) ((hq.keep hba).mono (Nat.zero_le _))
            (fun b' o y e1 e2 => by
              injection e1 with e1; injection e1 with e1
              have := (hr'.block b' o y e2).1
              omega) (fun b' o y e1 e2 => by
              injection e1 with e1; injection e1 with e1
              have := (hq.block b' o y e2).1
              omega) (by omega)
          have hb5 := hg.below (((hbel.trans (hb3.mono sb)).trans (hb4.mono (by omega))).trans (hba.mono (by omega))) (by simp; omega) (fun k hk e => by injection e with e; injection e with e; omega)
          have hpc5 := hpc4.congr (unhide HSP)
          clear hpc4
          go_wp2_with (at_builtin; refine wpList_append_run rfl _ _ 66 rfl _ _ _ rfl rfl hr ?_)
          go_roundg (n - (i + 1))
          case measure => omega
          case rel => exact ⟨i + 1, rfl, by omega, by go_num, rfl, hpc5, hb5⟩
      · obtain rfl : i = n := by omega
        go_wp2
        go_ret2
        exact ⟨_, _, rfl, hpc2.mono s1, hb1.trans (hbel.mono s1)⟩
end Go.Proofs.Ygctai
