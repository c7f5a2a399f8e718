/-
  nlong.split.
-/
import Derived.Test.YgctaiLawH
import Derived.Test.YgctaiSplit
namespace Go.Proofs.Ygctai
open Go.RowKit
set_option linter.unusedVariables false

/-! ### plain -/
theorem mod_ten (P F K : Nat) : P % (F * K) = P % K + K * (P / K % F) ∧ P / (F * K) = P / K / F := by
  rw [Nat.mul_comm F K]
  exact ⟨Nat.mod_mul, (Nat.div_div_eq_div_mul _ _ _).symm⟩
/-- The low digits and a natural above. -/
def lowup (P R k : Nat) : Nat → Nat := fun i => if i < k then dig P i else dig (R * 256 ^ k) i
theorem lowup_byt (P R k : Nat) : Byt (lowup P R k) := fun i => by unfold lowup; split <;> exact dig_lt _ _
theorem lowup_val {P R k n : Nat} (hn : n = k + dlen R) : val (lowup P R k) n = P % 256 ^ k + 256 ^ k * R := by
  rw [hn, val_split]
  have e1 : val (lowup P R k) k = P % 256 ^ k := by
    rw [← val_dig]; exact val_congr _ fun i hi => by unfold lowup; rw [if_pos hi]
  have e2 := val_congr (f := fun i => lowup P R k (k + i)) (g := dig R) (dlen R) fun i hi => by unfold lowup; rw [if_neg (by omega), dig_mul_pow]
  rw [e1, e2, val_dig_dlen]

set_option maxRecDepth 100000 in
set_option maxHeartbeats 1000000 in
/-- nlong.split. -/
theorem nlSplit_any (B : Nat) (a fa : Option Addr) (n cap : Nat) (p : Nat → Nat) (F k : Nat) (w : World) (hpc : Pc w B a n cap p) (hF : Nt w 0 fa F) (hF0 : 0 < F) (lF : dlen F ≤ 4100) (lp : ∀ i, i < n → dlen (p i) ≤ 4096) (hn : n ≤ 1024) (hk0 : 0 < k) (hk : k ≤ 4096) :
    Calls Taig.prog 80 #[.slice a n cap, .slice fa (dlen F) (dlen F), .int .i64 k] w fun e w' => ∃ d c, e = .returned (.slice d (2 * n) c) ∧ Pc w' w.heap.size d (2 * n) c (sp p (F * 256 ^ k)) ∧ Below w.heap.size w w' := by
  have HP := hide lp
  have HF0 := hide hF0
  have hd0 := dlen_pos hF0
  clear lp hF0
  obtain ⟨T, hT⟩ : ∃ T, Hid (F * 256 ^ k = T) := ⟨_, rfl⟩
  rw [unhide hT]
  go_enter Taig.func80, Taig.ntmps80
  go_wp2
  go_loopg [7, 8] n (fun gk mv iv wr => ∃ (i M : Nat), gk = n - i ∧ i ≤ n ∧ iv = .int .i64 i ∧ mv = .int .i64 M ∧ 1 ≤ M ∧ M ≤ 4097 ∧ w = wr)
  case atStart => exact ⟨0, 1, rfl, Nat.zero_le _, rfl, rfl, Nat.le_refl _, by omega, rfl⟩
  case round =>
    obtain ⟨i, M, rfl, hi, rfl, rfl, hM1, hM2, rfl⟩ := hrel
    by_cases hlt : i < n
    · obtain ⟨b, ad, rfl, c0, n0⟩ := hpc.at hlt
      have lpi := unhide HP i hlt
      generalize p i = P at *
      by_cases h : (M : Int) < (dlen P : Int) - (k : Int) - (dlen F : Int) + 1
      · obtain ⟨M', hM'⟩ : ∃ M' : Nat, (dlen P : Int) - (k : Int) - (dlen F : Int) + 1 = (M' : Int) := ⟨((dlen P : Int) - (k : Int) - (dlen F : Int) + 1).toNat, by omega⟩
        have hb1 : 1 ≤ M' := by omega
        have hb2 : M' ≤ 4097 := by omega
        have hMM : (M : Int) < (M' : Int) := by omega
        go_wp2
        go_roundg (n - (i + 1))
        case measure => omega
        case rel => exact ⟨i + 1, M', rfl, by omega, by go_num, rfl, hb1, hb2, rfl⟩
      · go_wp2
        go_roundg (n - (i + 1))
        case measure => omega
        case rel => exact ⟨i + 1, M, rfl, by omega, by go_num, rfl, hM1, hM2, rfl⟩
    · obtain rfl : i = n := by omega
      obtain ⟨p', hp'⟩ : ∃ p', Hid (p' = max 4 (M + 2)) := ⟨_, hide rfl⟩
      have KN := hide (newDivisor_any fa F M p' w hF (unhide HF0) (by omega) (by omega) hp')
      have hmk : ∀ w, (Instr.makeSlice 66 (.int .i64 0) (.int .i64 (2 * (i : Int)))).run Taig.prog w = .ok (.slice (some ⟨w.heap.size, 0, none⟩) 0 (2 * i)) (w.alloc (made (.slice none 0 0) (2 * i) 23)) := fun w => make66cap (2 * i) (by omega) w
      go_wp2_with fail
      refine (unhide KN).mono ?_
      rintro e w1 ⟨x, X, rfl, nx, hRl, hb1⟩
      unfold dvs
      have HRl := hide hRl
      clear hRl KN
      have s1 := hb1.size
      have q1 : Row (w1.alloc (.cells #[.slice fa (dlen F) (dlen F), .slice x (dlen X) (dlen X), .int .i64 (p' : Int), .int .i64 (M : Int)] 85)) w1.heap.size 0 4 (dvc fa x F X p' M) := row_new w1 _ _ 4 _ (fun i hi => by
        match i, hi with
        | 0, _ => rfl
        | 1, _ => rfl
        | 2, _ => rfl
        | 3, _ => rfl)
      have q4 : Below w1.heap.size w1 (w1.alloc (.cells #[.slice fa (dlen F) (dlen F), .slice x (dlen X) (dlen X), .int .i64 (p' : Int), .int .i64 (M : Int)] 85)) := below_alloc w1 _
      have q5 : Hid ((w1.alloc (.cells #[.slice fa (dlen F) (dlen F), .slice x (dlen X) (dlen X), .int .i64 (p' : Int), .int .i64 (M : Int)] 85)).heap.size = w1.heap.size + 1) := by unfold Hid; simp
      go_wp2
      clear hmk
      generalize w1.alloc (.cells #[.slice fa (dlen F) (dlen F), .slice x (dlen X) (dlen X), .int .i64 (p' : Int), .int .i64 (M : Int)] 85) = w2 at *
      have hb2 : Below w.heap.size w w2 := hb1.trans (q4.mono s1)
      have s2 := hb2.size
      have hsz2 : w2.heap.size = w1.heap.size + 1 := unhide q5
      obtain ⟨vb, hvb⟩ : ∃ vb, Hid (w1.heap.size = vb) := ⟨_, hide rfl⟩
      rw [← hsz2] at *
      clear hsz2 q5
      rw [unhide hvb] at q1 ⊢
      have nx2 := nx.keep q4
      go_loopg [11, 12] i (fun gk ov iv wr => ∃ (j : Nat), gk = i - j ∧ j ≤ i ∧ iv = .int .i64 j ∧ ov = .slice (some ⟨w2.heap.size, 0, none⟩) (2 * j) (2 * i) ∧ Pc wr w2.heap.size (some ⟨w2.heap.size, 0, none⟩) (2 * j) (2 * i) (sp p T) ∧ Below w2.heap.size w2 wr)
      case atStart => exact ⟨0, rfl, by omega, rfl, rfl, pc_made _ _ _ _ _ _ (Nat.le_refl _), below_alloc _ _⟩
      case round =>
        obtain ⟨j, rfl, hj, rfl, rfl, hpc2, hbel⟩ := hrel
        have sb := hbel.size
        by_cases hlt2 : j < i
        · obtain ⟨b, ad, rfl, c0, n0⟩ := hpc.at hlt2
          have hb3 := hb2.trans (hbel.mono s2)
          have hblw : b < w.heap.size := World.block_lt_of_cell? _ _ c0
          have c1 : wr.cell? ⟨b, j, none⟩ = some (.slice ad (dlen (p j)) (dlen (p j))) := by rw [hb3.cell hblw]; exact c0
          have n1 := n0.keep hb3
          have lpi := unhide HP j hlt2
          have HSP := hide (sp_upd (p := p) (T := T) (i := j) (N := p j % T) (M := p j / T) rfl rfl)
          obtain ⟨z1, z2⟩ := mod_ten (p j) F (256 ^ k)
          rw [unhide hT] at z1 z2
          have Z1 := hide z1
          have Z2 := hide z2
          clear z1 z2
          generalize p j % T = RR at *
          generalize p j / T = QQ at *
          generalize p j = P at *
          obtain ⟨H, hH⟩ : ∃ H, Hid (P / 256 ^ k = H) := ⟨_, rfl⟩
          have lH : dlen H ≤ 4096 := by rw [← unhide hH, dlen_div]; omega
          have KD : Hid (Calls Taig.prog 73 #[.slice ad (dlen P) (dlen P), .int .i64 k] wr fun e w' => ∃ c, e = .returned (.slice c (dlen H) (dlen H)) ∧ Nt wr 0 c H ∧ wr = w') := by
            have := nlDown_any 0 ad P k wr n1 (by omega) (by omega)
            rwa [unhide hH] at this
          rw [unhide hH] at Z1 Z2
          have KV : Hid (∀ c, Nt wr 0 c H → Calls Taig.prog 74 #[.pointer (some ⟨vb, 0, none⟩), .slice c (dlen H) (dlen H)] wr fun e w' => ∃ q r, e = .returned (.tuple #[.slice q (dlen (H / F)) (dlen (H / F)), .slice r (dlen (H % F)) (dlen (H % F))]) ∧ Nt w' wr.heap.size q (H / F) ∧ Nt w' wr.heap.size r (H % F) ∧ Below wr.heap.size wr w') := fun c hc => dvDivide_any vb c fa x H F X p' M wr (q1.keep hbel) hc (hF.keep hb3) (nx2.keep hbel) (unhide HF0) (by have := unhide hp'; omega) (by have := unhide hp'; omega) (unhide HRl) (by omega) (by omega)
          have lHF : dlen (H % F) ≤ 4096 := Nat.le_trans (dlen_mono (Nat.mod_le _ _)) lH
          have hHz : Hid (H % F ≠ 0 → k < dlen P) := fun h => by
            have h1 : 0 < H := by
              rcases Nat.eq_zero_or_pos H with e | e
              · rw [e, Nat.zero_mod] at h; exact absurd rfl h
              · exact e
            have h2 := dlen_pos h1
            rw [← unhide hH, dlen_div] at h2; omega
          rw [← unhide Z2] at KV
          generalize H % F = r at *
          go_wp2_with fail
          refine (unhide KD).mono ?_
          rintro e w' ⟨hc, rfl, nhc, rfl⟩
          go_wp2_with fail
          refine (unhide KV hc nhc).mono ?_
          rintro e w3 ⟨q, rc, rfl, nq, nr, hb4⟩
          clear KD KV
          have s4 := hb4.size
          have c3 : w3.cell? ⟨b, j, none⟩ = some (.slice ad (dlen P) (dlen P)) := by rw [hb4.cell (World.block_lt_of_cell? _ _ c1)]; exact c1
          have n3 := n1.keep hb4
          have hadw : ∀ b' o y, ad = some ⟨b', o, y⟩ → b' < w.heap.size := fun b' o y e => (n0.block b' o y e).2
          have hnb := (hpc2.block w2.heap.size rfl).2
          go_upto_if 67 with fail
          go_cut [15] (fun lv wc => ∃ (ln : Nat), lv = .slice ad ln ln ∧ Hid (ln = min (dlen P) k) ∧ OwnS w3 0 ad ln (dig P) ∧ ln ≤ 4096 ∧ w3 = wc)
          case first =>
            by_cases h : k < dlen P
            · have own : OwnS w3 0 ad k (dig P) := fun _ => by
                obtain ⟨b1, o1, e1, h1, r1, f1⟩ := n3.own (by omega)
                exact ⟨b1, o1, e1, h1, r1.sub (by omega), f1.sub (by omega)⟩
              obtain ⟨b1, o1, rfl, _⟩ := own (by omega)
              go_wp2
              go_meet
              case rel => exact ⟨k, rfl, by unfold Hid; omega, own, hk, rfl⟩
            · go_wp2
              go_meet
              case rel => exact ⟨dlen P, rfl, by unfold Hid; omega, n3.own, lpi, rfl⟩
          case rest =>
            obtain ⟨ln, rfl, hln, ownL, hln2, rfl⟩ := hcut
            have hPk : Hid (val (dig P) ln = P % 256 ^ k) := by
              unfold Hid
              rw [val_dig, unhide hln]
              rcases Nat.lt_or_ge k (dlen P) with h | h
              · rw [Nat.min_eq_right (by omega)]
              · rw [Nat.min_eq_left h, Nat.mod_eq_of_lt (lt_pow_dlen P), Nat.mod_eq_of_lt (Nat.lt_of_lt_of_le (lt_pow_dlen P) (pow256_mono h))]
            go_upto_if 74 with fail
            go_cut [14, 15] (fun rv lv wc => ∃ (lc : Option Addr) (ln lcap : Nat) (fl : Nat → Nat), lv = .slice lc ln lcap ∧ OwnS wc 0 lc ln fl ∧ Byt fl ∧ Hid (val fl ln = RR) ∧ ln ≤ lcap ∧ lcap ≤ 20000 ∧ (∀ b' o y, lc = some ⟨b', o, y⟩ → b' ≠ w2.heap.size) ∧ Below w3.heap.size w3 wc)
            case first =>
              rcases Nat.eq_zero_or_pos (dlen r) with hr0 | hr0
              · have hr1 : Hid (r = 0) := dlen_eq_zero.1 hr0
                have hRR : Hid (val (dig P) ln = RR) := by unfold Hid; rw [unhide Z1, unhide hr1, Nat.mul_zero, Nat.add_zero]; exact unhide hPk
                rw [hr0]
                clear hr0
                go_wp2
                go_meet
                case rel => exact ⟨ad, ln, ln, dig P, rfl, ownL, byt_dig _, hRR, Nat.le_refl _, by omega, fun b' o y e => by have := hadw b' o y e; omega, Below.refl _ _⟩
              · have hr1 : 0 < r := by
                  rcases Nat.eq_zero_or_pos r with e | e
                  · rw [e, dlen_zero] at hr0; omega
                  · exact e
                have hlk : ln = k := by have h1 := unhide hHz (by omega); have := unhide hln; omega
                subst hlk
                have HLU := hide (dlen_mul_pow ln hr1)
                have KU := hide (nlUp_any rc r ln w3 nr.sl (by omega) (by omega))
                have hR1 := hide hr1
                clear hr1
                go_wp2_with fail
                refine (unhide KU).mono ?_
                rintro e w5 ⟨c5, rfl, n5, hb5⟩
                obtain ⟨b5, o5, rfl, hB5, r5, f5⟩ := n5.2 (Nat.mul_pos (unhide hR1) (pow256_pos _))
                obtain ⟨w6, run6, wr6, row6⟩ := copy_oct 23 23 3 Taig.underlying23 w5 b5 o5 (dlen (r * 256 ^ ln)) (dlen (r * 256 ^ ln)) ad ln ln (dig P) (dig (r * 256 ^ ln)) r5 f5 (ownL.keep hb5).sl
                rw [Nat.min_eq_left (by rw [unhide HLU]; omega)] at run6 wr6 row6
                have own6 : OwnS w6 0 (some ⟨b5, o5, none⟩) (dlen (r * 256 ^ ln)) (lowup P r ln) := fun h => ⟨b5, o5, rfl, Nat.zero_le _, row6.congr fun i hi => by rw [oct_at, oct_at]; rfl, f5.wr wr6 (r5.block_lt h)⟩
                have hval6 : Hid (val (lowup P r ln) (dlen (r * 256 ^ ln)) = RR) := by unfold Hid; rw [lowup_val (unhide HLU), unhide Z1]
                have hb6 : Below w3.heap.size w3 w6 := wr6.below hb5 hB5 hb5.size
                have hlen6 : dlen (r * 256 ^ ln) ≤ 20000 := by rw [unhide HLU]; omega
                clear row6 wr6 r5 f5 KU n5
                generalize dlen (r * 256 ^ ln) = L6 at *
                go_wp2
                go_meet
                case rel => exact ⟨some ⟨b5, o5, none⟩, L6, L6, lowup P r ln, rfl, own6, lowup_byt _ _ _, hval6, Nat.le_refl _, hlen6, fun b' o y e => by injection e with e; injection e with e; omega, hb6⟩
            case rest =>
              clear hPk ownL hln hln2
              obtain ⟨lc, l7, lcap, fl, rfl, own7, hfl, hv7, hl7, hlc7, hne7, hb7⟩ := hcut
              have s7 := hb7.size
              have KN := nlongNormal_any lc l7 lcap fl wc own7.sl hfl hl7 (by omega)
              have nt7 := own7.nt hfl
              rw [unhide hv7] at KN nt7
              have HKN := hide KN
              clear KN
              obtain ⟨c7, hc7⟩ : ∃ c7, Hid (nz RR lc = c7) := ⟨_, rfl⟩
              have hne8 : ∀ b' o y, c7 = some ⟨b', o, y⟩ → b' ≠ w2.heap.size := fun b' o y e => by
                rw [← unhide hc7] at e
                rcases Nat.eq_zero_or_pos RR with e0 | e0
                · rw [e0, nz_zero] at e; cases e
                · rw [nz_pos e0] at e; exact hne7 b' o y e
              rw [unhide hc7] at HKN nt7
              go_wp2_with fail
              refine (unhide HKN).mono ?_
              rintro e w' ⟨rfl, rfl⟩
              have hba := below_alloc wc (.cells #[.slice c7 (dlen RR) (dlen RR), .slice q (dlen QQ) (dlen QQ)] 23)
              obtain ⟨w8, hr8, hpc8, hg8⟩ := pc_append2 (wc.alloc (.cells #[.slice c7 (dlen RR) (dlen RR), .slice q (dlen QQ) (dlen QQ)] 23)) w2.heap.size (some ⟨w2.heap.size, 0, none⟩) (2 * j) (2 * i) (sp p T) (((hpc2.keep hb4).keep hb7).keep hba) wc.heap.size RR QQ c7 q
                (by rw [World.cell?_alloc_at _ _ _ _ rfl]; rfl) (by rw [World.cell?_alloc_at _ _ _ _ rfl]; rfl) (nt7.keep hba) (((nq.keep hb7).keep hba).mono (Nat.zero_le _))
                (fun b' o y e1 e2 => by
                  injection e1 with e1; injection e1 with e1
                  exact hne8 b' o y e2 e1.symm) (fun b' o y e1 e2 => by
                  injection e1 with e1; injection e1 with e1
                  have := (nq.block b' o y e2).1
                  omega) (by omega)
              have hb8 := hg8.below (((hbel.trans (hb4.mono sb)).trans (hb7.mono (by omega))).trans (hba.mono (by omega))) (by simp; omega) (fun k hk e => by injection e with e; injection e with e; omega)
              have hpc9 := hpc8.congr (unhide HSP)
              clear hpc8
              go_wp2_with (at_builtin; refine wpList_append_run rfl _ _ 66 rfl _ _ _ rfl rfl hr8 ?_)
              go_roundg (i - (j + 1))
              case measure => omega
              case rel => exact ⟨j + 1, rfl, by omega, by go_num, rfl, hpc9, hb8⟩
        · obtain rfl : j = i := by omega
          go_wp2
          go_ret
          exact ⟨_, _, rfl, hpc2.mono s2, hb2.trans (hbel.mono s2)⟩
end Go.Proofs.Ygctai
