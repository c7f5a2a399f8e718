/-
  nlong.Decimal.
-/
import Derived.Test.YgctaiLK2
import Derived.Test.YgctaiLL2
namespace Go.Proofs.Ygctai
open Go.RowKit
set_option linter.unusedVariables false
attribute [local go_sem ↓] Go.wp_at_zero Go.wp_at_succ

/-- The fives. -/
def FIV (i : Nat) : Nat := 152587890625 ^ (2 ^ i)
theorem fiv_pos (i : Nat) : 0 < FIV i := Nat.pow_pos (by decide)
theorem fiv_zero : 152587890625 = FIV 0 := by decide +kernel
theorem fiv_succ (k : Nat) : FIV (k + 1) = FIV k * FIV k := by unfold FIV; rw [Nat.pow_succ, Nat.mul_two, Nat.pow_add]
theorem ten_fiv (k : Nat) : TEN k = FIV k * 256 ^ (2 * 2 ^ k) := by
  unfold TEN FIV
  rw [Nat.pow_mul, ← Nat.mul_pow]
theorem ten10 : 256 ^ 4096 ≤ TEN 10 := by decide +kernel
theorem ten_k9 {k A : Nat} (h : TEN k ≤ A) (hA : dlen A ≤ 4096) : k ≤ 9 := by
  rcases Nat.lt_or_ge k 10 with h1 | h1
  · omega
  · have h2 := ten_mono h1
    have h3 := (dlen_le_iff A 4096).1 hA
    have h4 := ten10
    generalize (256 : Nat) ^ 4096 = z at *
    omega
theorem fiv_mono {j k : Nat} (h : j ≤ k) : FIV j ≤ FIV k := Nat.pow_le_pow_right (by decide) (Nat.pow_le_pow_right (by decide) h)
theorem fiv9 : FIV 9 < 256 ^ 4096 := by decide +kernel
theorem fiv_len {k : Nat} (h : k ≤ 9) : dlen (FIV k) ≤ 4096 := by
  rw [dlen_le_iff]
  exact Nat.lt_of_le_of_lt (fiv_mono h) fiv9
theorem fiv_big {A K : Nat} (h : dlen A < 2 * (2 * 2 ^ K + dlen (FIV K)) - 1) : A < TEN (K + 1) := by
  have hd := dlen_pos (fiv_pos K)
  have h1 := (lt_dlen_iff (FIV K) (dlen (FIV K) - 1)).1 (by omega)
  have h2 := Nat.mul_le_mul h1 h1
  rw [← Nat.pow_add, ← fiv_succ] at h2
  have h3 := Nat.mul_le_mul_right (256 ^ (2 * 2 ^ (K + 1))) h2
  rw [← Nat.pow_add, ← ten_fiv] at h3
  refine Nat.lt_of_lt_of_le ((dlen_le_iff A _).1 ?_) h3
  rw [Nat.pow_succ]; omega

/-- n pieces below TEN l stand for A. -/
structure Pl (A l n : Nat) (p : Nat → Nat) : Prop where
  sum : bsv (TEN l) p n = A
  lt : ∀ i, i < n → p i < TEN l
  len : ∀ i, i < n → dlen (p i) ≤ 4096
  few : n * 2 ^ l ≤ 1024
  pos : 0 < n
theorem pl_start {A l : Nat} {p : Nat → Nat} (h0 : p 0 = A) (h1 : A < TEN l) (h2 : dlen A ≤ 4096) (hl : l ≤ 10) : Pl A l 1 p := by
  refine ⟨by simp [bsv, h0], fun i hi => ?_, fun i hi => ?_, ?_, by omega⟩
  · obtain rfl : i = 0 := by omega
    rw [h0]; exact h1
  · obtain rfl : i = 0 := by omega
    rw [h0]; exact h2
  · have : 2 ^ l ≤ 2 ^ 10 := Nat.pow_le_pow_right (by decide) hl
    omega
theorem pl_step {A l n : Nat} {p : Nat → Nat} (h : Pl A (l + 1) n p) : Pl A l (2 * n) (sp p (TEN l)) := by
  have hT := ten_pos l
  refine ⟨by rw [bsv_sp, ← ten_succ]; exact h.sum, fun j hj => ?_, fun j hj => ?_, ?_, by have := h.pos; omega⟩
  · have h1 := h.lt (j / 2) (by omega)
    rw [ten_succ] at h1
    unfold sp; split
    · exact Nat.mod_lt _ hT
    · rw [Nat.div_lt_iff_lt_mul hT]; exact h1
  · have h1 := h.len (j / 2) (by omega)
    refine Nat.le_trans (dlen_mono ?_) h1
    unfold sp; split
    · exact Nat.mod_le _ _
    · exact Nat.div_le_self _ _
  · have := h.few
    rw [Nat.pow_succ, ← Nat.mul_assoc, Nat.mul_right_comm] at this
    rw [Nat.mul_comm 2 n]; exact this
theorem Pl.n1024 {A l n : Nat} {p : Nat → Nat} (h : Pl A l n p) : n ≤ 1024 := by
  have h1 := h.few
  have h2 : n * 1 ≤ n * 2 ^ l := Nat.mul_le_mul_left _ (Nat.two_pow_pos l)
  omega


attribute [local irreducible] TEN FIV
set_option maxRecDepth 100000 in
set_option maxHeartbeats 2000000 in
/-- nlong.Decimal. -/
theorem nlDecimal_any (a : Option Addr) (n ca : Nat) (f : Nat → Nat) (A : Nat) (w : World) (hs : Sl w a n f) (hf : Byt f) (hn : n ≤ ca) (hca : ca ≤ 1099511627776) (hA : val f n = A) (na : Nt w 0 (nz A a) A) (lA : dlen A ≤ 4096) :
    Calls Taig.prog 43 #[.slice a n ca] w fun e w' => ∃ T m c t, e = .returned (.slice (some ⟨T, 0, none⟩) m c) ∧ Row w' T 0 m (oct t) ∧ Byt t ∧ (∀ i, i < m → Dgt (t i)) ∧ 0 < m ∧ (m = 1 ∨ t 0 ≠ 48) ∧ dec t m = A ∧ m ≤ c ∧ c ≤ 20000 ∧ Below w.heap.size w w' := by
  have K1 := nlongNormal_any a n ca f w hs hf hn (by omega)
  rw [hA] at K1
  have HK1 := hide K1
  clear K1 hA hs hf hn hca
  generalize nz A a = a1 at *
  go_enter Taig.func43, Taig.ntmps43
  go_wp2_with fail
  refine (unhide HK1).mono ?_
  rintro e w' ⟨rfl, rfl⟩
  go_wp2_with fail
  refine (nlSmall_any 152587890625 (by omega) w).mono ?_
  rintro e w1 ⟨q0, rfl, nq0, hb1⟩
  have s1 := hb1.size
  rw [fiv_zero] at nq0 ⊢
  have hpc0 := pc_one w1 w.heap.size q0 (FIV 0) FIV (nq0.mono (Nat.zero_le _)) rfl s1
  have hba0 := below_alloc w1 (.cells #[.slice q0 (dlen (FIV 0)) (dlen (FIV 0))] 23)
  have hb2 := hb1.trans (hba0.mono s1)
  obtain ⟨bF, aF, eF, cF, nF⟩ := hpc0.at (i := 0) (by omega)
  injection eF with eF; injection eF with eF
  subst eF
  obtain ⟨L0, HL0⟩ : ∃ L0, Hid (dlen (FIV 0) = L0) := ⟨_, rfl⟩
  have hpc0' := hpc0
  go_wp2
  go_quiet (fail)
  go_wp2
  clear cF
  go_loopg [3, 4, 5] 10 (fun gk ov kv pv wr => ∃ (K c kk : Nat) (d pc : Option Addr), gk = 10 - K ∧ K ≤ 9 ∧ ov = .slice d (K + 1) c ∧ kv = .int .i64 kk ∧ Hid (kk = 2 * 2 ^ K) ∧ kk ≤ 1024 ∧ pv = .slice pc (dlen (FIV K)) (dlen (FIV K)) ∧ Nt wr 0 pc (FIV K) ∧ Pc wr w.heap.size d (K + 1) c FIV ∧ Below w.heap.size w wr)
  case atStart => exact ⟨0, 1, 2, _, aF, rfl, by omega, rfl, rfl, rfl, by omega, rfl, ⟨nF.1, fun h => by obtain ⟨b, o, e, h1, r, fr⟩ := nF.2 h; exact ⟨b, o, e, h1, r.drewN nq, fr.drewN nq⟩⟩, hpc0'.keep (belowN (Below.refl _ _) nq), belowN hb2 nq⟩
  case round =>
    clear hpc0 hpc0' nF hb2 hba0 nq0 hb1 s1
    obtain ⟨K, c, kk, d, pc, rfl, hK, rfl, rfl, hkk, hkk2, rfl, npc, hpc, hbel⟩ := hrel
    have sb := hbel.size
    have lF := fiv_len hK
    by_cases hbig : dlen A < 2 * (kk + dlen (FIV K)) - 1
    · have HB : Hid (A < TEN (K + 1)) := fiv_big (by rw [← unhide hkk]; exact hbig)
      have bq : decide (2 * ((kk : Int) + (dlen (FIV K) : Int)) - 1 ≤ (dlen A : Int)) = false := decide_eq_false (by omega)
      clear hbig
      have s1 := hbel.size
      obtain ⟨w1, rfl⟩ : ∃ x, x = wr := ⟨wr, rfl⟩
      have hpcA := pc_one w1 w1.heap.size a1 A (fun _ => A) (na.keep hbel) rfl (Nat.le_refl _)
      have hba := below_alloc w1 (.cells #[.slice a1 (dlen A) (dlen A)] 23)
      have HS0 := hide (pl_start (p := fun _ => A) rfl (unhide HB) lA (by omega))
      have hbW := hbel
      have hpcT := hpc
      go_wp2
      go_loopg [6, 7] (K + 1) (fun gl pv kv wr => ∃ (l n c : Nat) (d : Option Addr) (p : Nat → Nat), l = gl ∧ l ≤ K + 1 ∧ kv = .int .i64 ((l : Int) - 1) ∧ pv = .slice d n c ∧ n ≤ 1024 ∧ Pc wr w1.heap.size d n c p ∧ Hid (Pl A l n p) ∧ Below w1.heap.size w1 wr)
      case atStart => exact ⟨K + 1, 1, 1, _, _, rfl, Nat.le_refl _, int_eq (by omega), rfl, by omega, hpcA, HS0, hba⟩
      case round =>
        clear hpcA hba HS0
        obtain ⟨l, n, c, d, p, rfl, hl, rfl, rfl, hn, hpcI, hps, hbI⟩ := hrel
        have sb := hbI.size
        rcases Nat.eq_zero_or_pos l with h0 | h0
        · subst h0
          have hn0 := (unhide hps).pos
          have hmk : ∀ w, (Instr.makeSlice 22 (.int .i64 0) (.int .i64 (16 * (n : Int)))).run Taig.prog w = .ok (.slice (some ⟨w.heap.size, 0, none⟩) 0 (16 * n)) (w.alloc (made (.int .u8 0) (16 * n) 5)) := fun w => make22cap (16 * n) (by omega) w
          obtain ⟨wo, rfl⟩ : ∃ x, x = wr := ⟨wr, rfl⟩
          go_wp2
          clear hmk
          go_loopg [8, 9] n (fun gl tv iv wr => ∃ (l m V : Nat) (t : Nat → Nat), l = gl ∧ l ≤ n ∧ iv = .int .i64 ((l : Int) - 1) ∧ tv = .slice (some ⟨wo.heap.size, 0, none⟩) m (16 * n) ∧ m + 16 * l ≤ 16 * n ∧ Byt t ∧ Hid (Txt t m V) ∧ Hid (bsv (TEN 0) p l + V * TEN 0 ^ l = A) ∧ Row wr wo.heap.size 0 (16 * n) (oct t) ∧ Free wr wo.heap.size 0 (16 * n) ∧ Below wo.heap.size wo wr)
          case atStart => exact ⟨n, 0, 0, fun _ => 0, rfl, Nat.le_refl _, rfl, rfl, by omega, byt_zero, ⟨fun i hi => absurd hi (by omega), fun h => absurd h (by omega), rfl⟩, by unfold Hid; rw [Nat.zero_mul, Nat.add_zero]; exact (unhide hps).sum, row_made _ _ _ _, free_made _ _ _ _, below_alloc _ _⟩
          case round =>
            obtain ⟨l, m, V, t, rfl, hl, rfl, rfl, hm, ht, htx, hsum, hr, hf, hb2⟩ := hrel
            have hbT := hr.block_lt (by omega : 0 < 16 * n)
            have s2 := hb2.size
            rcases Nat.eq_zero_or_pos l with h0 | h0
            · subst h0
              have hVA : V = A := by have := unhide hsum; simpa [bsv] using this
              rcases Nat.eq_zero_or_pos m with hm0 | hm0
              · subst hm0
                have hA0 : Hid (A = 0) := by unfold Hid; rw [← hVA]; exact txt_zero (unhide htx)
                have ct := hr.cell (i := 0) (by omega)
                have ft := hf 0 (by omega)
                simp only [Nat.zero_add, oct_at] at ct ft
                clear hsum hVA htx hps
                go_wp2
                go_ret
                exact ⟨_, 1, 16 * n, upd t 0 48, rfl, ((hr.put (o := 0) (z := 48) 0 48 (by omega) (by omega) rfl).alloc _).sub (by omega), ht.upd _ _ (by omega), fun i hi => by
                  obtain rfl : i = 0 := by omega
                  rw [upd_at]; exact ⟨by omega, by omega⟩, by omega, .inl rfl, by rw [unhide hA0]; simp [dec, upd_at], by omega, by omega, (hbW.trans (hbI.mono s1)).trans ((hb2.setCell (Nat.le_refl _) _ |>.alloc (by simp; omega) _).mono (by omega))⟩
              · have hm1 : ((m : Int) == 0) = false := by simp; omega
                have HVA := hide hVA
                clear hsum hVA hps
                go_wp2
                go_ret
                exact ⟨_, m, 16 * n, t, rfl, hr.sub (by omega), ht, (unhide htx).dgt, hm0, .inr ((unhide htx).lead hm0), by rw [← unhide HVA]; exact (unhide htx).sum, by omega, by omega, (hbW.trans (hbI.mono s1)).trans (hb2.mono (by omega))⟩
            · obtain ⟨j, rfl⟩ : ∃ j, l = j + 1 := ⟨l - 1, by omega⟩
              obtain ⟨bp, ad, rfl, c0, n0⟩ := hpcI.at (i := j) (by omega)
              have c2 : wr.cell? ⟨bp, j, none⟩ = some (.slice ad (dlen (p j)) (dlen (p j))) := by rw [hb2.cell (World.block_lt_of_cell? _ _ c0)]; exact c0
              have hpj : p j < 10000000000000000 := by rw [ten_zero]; exact (unhide hps).lt j (by omega)
              have KV := hide (nlValue_any ad (p j) wr (n0.keep hb2).sl (Nat.le_trans (dlen_chunk hpj) (by decide)))
              have KA := hide (nlAppendChunk_any wo.heap.size m (16 * n) (p j) V t wr hr hf ht (unhide htx) (by omega) (by omega) hpj)
              have HS2 : Hid (bsv (TEN 0) p j + (V * TEN 0 + p j) * TEN 0 ^ j = A) := by
                have h1 := unhide hsum
                unfold Hid
                rw [bsv, Nat.pow_succ] at h1
                rw [Nat.add_mul, Nat.mul_assoc, Nat.mul_comm (TEN 0)]; omega
              rw [ten_zero] at KA
              clear hsum htx c0 hpj
              generalize V * TEN 0 + p j = V2 at *
              generalize p j = PJ at *
              go_wp2_with fail
              refine (unhide KV).mono ?_
              rintro e w' ⟨rfl, rfl⟩
              go_wp2_with fail
              refine (unhide KA).mono ?_
              rintro e w3 ⟨m', t', rfl, hr3, ht3, htx3, hm3, hw3⟩
              go_wp2
              go_roundg j
              case measure => omega
              case rel => exact ⟨j, m', V2, t', rfl, by omega, by go_num, rfl, by omega, ht3, htx3, HS2, hr3, hf.wr hw3 hbT, hw3.below hb2 (Nat.le_refl _) s2⟩
        · obtain ⟨k, rfl⟩ : ∃ k, l = k + 1 := ⟨l - 1, by omega⟩
          have hI : ((k + 1 : Nat) : Int) - 1 = (k : Int) := by omega
          rw [hI]
          clear hI
          obtain ⟨bT, ad, rfl, cT, nT⟩ := hpcT.at (i := k) (by omega)
          have cT2 : wr.cell? ⟨bT, k, none⟩ = some (.slice ad (dlen (FIV k)) (dlen (FIV k))) := by rw [hbI.cell (World.block_lt_of_cell? _ _ cT)]; exact cT
          have lT : dlen (FIV k) ≤ 4096 := fiv_len (by omega)
          have HPS := hide (pl_step (unhide hps))
          rw [ten_fiv] at HPS
          obtain ⟨kk, hkk⟩ : ∃ kk, Hid (2 * 2 ^ k = kk) := ⟨2 * 2 ^ k, hide rfl⟩
          have hkk0 : 0 < kk := by rw [← unhide hkk]; have := Nat.two_pow_pos k; omega
          have hkk1 : kk ≤ 4096 := by
            rw [← unhide hkk]
            have := Nat.pow_le_pow_right (show 0 < 2 by decide) (show k ≤ 9 by omega)
            have h9 : (2 : Nat) ^ 9 = 512 := by decide
            omega
          rw [unhide hkk] at HPS
          have esh : IntKind.i64.wrap (2 * 2 ^ k) = (kk : Int) := by
            have : (2 : Int) * 2 ^ k = (kk : Int) := by rw [← unhide hkk]; simp
            rw [this, IntKind.wrap_i64]; omega
          have KS := hide (nlSplit_any w1.heap.size d ad n c p (FIV k) kk wr.drew (hpcI.keep (Below.refl _ wr).drew) ((nT.keep hbI).drew) (fiv_pos k) (by omega) (unhide hps).len (by omega) hkk0 hkk1)
          have hn2 := (unhide HPS).n1024
          clear cT hps
          go_wp2
          go_region_with (go_at_call 80; refine (unhide KS).mono ?_; rintro e w3 ⟨d3, c3, rfl, hpc3, hb3⟩)
          all_goals
            go_wp2
            go_roundg k
            case measure => omega
            case rel => exact ⟨k, 2 * n, c3, d3, _, rfl, by omega, by go_num, rfl, hn2, hpc3.mono sb, HPS, hbI.drew.trans (hb3.mono sb)⟩
    · have HT : Hid (FIV (K + 1) = FIV K * FIV K) := fiv_succ K
      have hd0 := dlen_pos (fiv_pos K)
      have lF2 : dlen (FIV (K + 1)) ≤ 8192 := by rw [unhide HT]; exact dlen_mul_le lF lF
      have KM := mulLong_any pc pc (FIV K) (FIV K) _ _ wr npc npc (by omega) (by omega) (Nat.le_refl _) (Nat.le_refl _) (by omega) (by omega)
      rw [← unhide HT] at KM
      have HKM := hide KM
      clear KM
      obtain ⟨A2, hA2⟩ : ∃ A2, Hid (A / 256 ^ (2 * kk) = A2) := ⟨_, rfl⟩
      have lA2 : dlen A2 ≤ 4096 := by rw [← unhide hA2, dlen_div]; omega
      have hTA : Hid (FIV (K + 1) ≤ A2 ↔ TEN (K + 1) ≤ A) := by
        unfold Hid
        rw [← unhide hA2, ten_fiv, Nat.le_div_iff_mul_le (pow256_pos _), unhide hkk, Nat.pow_succ, Nat.mul_comm (2 ^ K) 2]
      have bq : decide (2 * ((kk : Int) + (dlen (FIV K) : Int)) - 1 ≤ (dlen A : Int)) = true := decide_eq_true (by omega)
      have KD : Hid (∀ w3, Below wr.heap.size wr w3 → Calls Taig.prog 73 #[.slice a1 (dlen A) (dlen A), .int .i64 (2 * (kk : Int))] w3 fun e w' => ∃ cc, e = .returned (.slice cc (dlen A2) (dlen A2)) ∧ Nt w3 0 cc A2 ∧ w3 = w') := fun w3 h => by
        have := nlDown_any 0 a1 A (2 * kk) w3 ((na.keep hbel).keep h) (by omega) (by omega)
        rw [unhide hA2] at this
        exact this
      go_wp2_with fail
      refine (unhide HKM).mono ?_
      rintro e w3 ⟨sq, rfl, hsq, hb3⟩
      have s3 := hb3.size
      go_wp2_with fail
      refine (unhide KD w3 hb3).mono ?_
      rintro e w' ⟨cc, rfl, ncc, rfl⟩
      have KC := cmp_any sq cc _ (dlen (FIV (K + 1))) _ (dlen A2) _ _ w3 hsq.sl ncc.sl (byt_dig _) (byt_dig _) (Nat.le_refl _) (Nat.le_refl _) (by omega) (by omega) (by omega) (by omega)
      rw [val_dig_dlen, val_dig_dlen] at KC
      clear HKM KD
      rcases Nat.lt_or_ge A2 (FIV (K + 1)) with hlt | hge
      · rw [cmpz_gt hlt] at KC
        have HKC := hide KC
        have HB : Hid (A < TEN (K + 1)) := by
          unfold Hid
          rcases Nat.lt_or_ge A (TEN (K + 1)) with h | h
          · exact h
          · have := (unhide hTA).2 h; omega
        clear KC hlt
        go_wp2_with fail
        refine (unhide HKC).mono ?_
        rintro e w4 ⟨rfl, hb4⟩
        have hbX : Below w.heap.size w w4 := (hbel.trans (hb3.mono sb)).trans (hb4.mono (by omega))
        have hpcX := (hpc.keep hb3).keep hb4
        have s1 := hbX.size
        obtain ⟨w1, rfl⟩ : ∃ x, x = w4 := ⟨w4, rfl⟩
        have hpcA := pc_one w1 w1.heap.size a1 A (fun _ => A) (na.keep hbX) rfl (Nat.le_refl _)
        have hba := below_alloc w1 (.cells #[.slice a1 (dlen A) (dlen A)] 23)
        have HS0 := hide (pl_start (p := fun _ => A) rfl (unhide HB) lA (by omega))
        have hbW := hbX
        have hpcT := hpcX
        go_wp2
        go_loopg [6, 7] (K + 1) (fun gl pv kv wr => ∃ (l n c : Nat) (d : Option Addr) (p : Nat → Nat), l = gl ∧ l ≤ K + 1 ∧ kv = .int .i64 ((l : Int) - 1) ∧ pv = .slice d n c ∧ n ≤ 1024 ∧ Pc wr w1.heap.size d n c p ∧ Hid (Pl A l n p) ∧ Below w1.heap.size w1 wr)
        case atStart => exact ⟨K + 1, 1, 1, _, _, rfl, Nat.le_refl _, int_eq (by omega), rfl, by omega, hpcA, HS0, hba⟩
        case round =>
          clear hpcA hba HS0
          obtain ⟨l, n, c, d, p, rfl, hl, rfl, rfl, hn, hpcI, hps, hbI⟩ := hrel
          have sb := hbI.size
          rcases Nat.eq_zero_or_pos l with h0 | h0
          · subst h0
            have hn0 := (unhide hps).pos
            have hmk : ∀ w, (Instr.makeSlice 22 (.int .i64 0) (.int .i64 (16 * (n : Int)))).run Taig.prog w = .ok (.slice (some ⟨w.heap.size, 0, none⟩) 0 (16 * n)) (w.alloc (made (.int .u8 0) (16 * n) 5)) := fun w => make22cap (16 * n) (by omega) w
            obtain ⟨wo, rfl⟩ : ∃ x, x = wr := ⟨wr, rfl⟩
            go_wp2
            clear hmk
            go_loopg [8, 9] n (fun gl tv iv wr => ∃ (l m V : Nat) (t : Nat → Nat), l = gl ∧ l ≤ n ∧ iv = .int .i64 ((l : Int) - 1) ∧ tv = .slice (some ⟨wo.heap.size, 0, none⟩) m (16 * n) ∧ m + 16 * l ≤ 16 * n ∧ Byt t ∧ Hid (Txt t m V) ∧ Hid (bsv (TEN 0) p l + V * TEN 0 ^ l = A) ∧ Row wr wo.heap.size 0 (16 * n) (oct t) ∧ Free wr wo.heap.size 0 (16 * n) ∧ Below wo.heap.size wo wr)
            case atStart => exact ⟨n, 0, 0, fun _ => 0, rfl, Nat.le_refl _, rfl, rfl, by omega, byt_zero, ⟨fun i hi => absurd hi (by omega), fun h => absurd h (by omega), rfl⟩, by unfold Hid; rw [Nat.zero_mul, Nat.add_zero]; exact (unhide hps).sum, row_made _ _ _ _, free_made _ _ _ _, below_alloc _ _⟩
            case round =>
              obtain ⟨l, m, V, t, rfl, hl, rfl, rfl, hm, ht, htx, hsum, hr, hf, hb2⟩ := hrel
              have hbT := hr.block_lt (by omega : 0 < 16 * n)
              have s2 := hb2.size
              rcases Nat.eq_zero_or_pos l with h0 | h0
              · subst h0
                have hVA : V = A := by have := unhide hsum; simpa [bsv] using this
                rcases Nat.eq_zero_or_pos m with hm0 | hm0
                · subst hm0
                  have hA0 : Hid (A = 0) := by unfold Hid; rw [← hVA]; exact txt_zero (unhide htx)
                  have ct := hr.cell (i := 0) (by omega)
                  have ft := hf 0 (by omega)
                  simp only [Nat.zero_add, oct_at] at ct ft
                  clear hsum hVA htx hps
                  go_wp2
                  go_ret
                  exact ⟨_, 1, 16 * n, upd t 0 48, rfl, ((hr.put (o := 0) (z := 48) 0 48 (by omega) (by omega) rfl).alloc _).sub (by omega), ht.upd _ _ (by omega), fun i hi => by
                    obtain rfl : i = 0 := by omega
                    rw [upd_at]; exact ⟨by omega, by omega⟩, by omega, .inl rfl, by rw [unhide hA0]; simp [dec, upd_at], by omega, by omega, (hbW.trans (hbI.mono s1)).trans ((hb2.setCell (Nat.le_refl _) _ |>.alloc (by simp; omega) _).mono (by omega))⟩
                · have hm1 : ((m : Int) == 0) = false := by simp; omega
                  have HVA := hide hVA
                  clear hsum hVA hps
                  go_wp2
                  go_ret
                  exact ⟨_, m, 16 * n, t, rfl, hr.sub (by omega), ht, (unhide htx).dgt, hm0, .inr ((unhide htx).lead hm0), by rw [← unhide HVA]; exact (unhide htx).sum, by omega, by omega, (hbW.trans (hbI.mono s1)).trans (hb2.mono (by omega))⟩
              · obtain ⟨j, rfl⟩ : ∃ j, l = j + 1 := ⟨l - 1, by omega⟩
                obtain ⟨bp, ad, rfl, c0, n0⟩ := hpcI.at (i := j) (by omega)
                have c2 : wr.cell? ⟨bp, j, none⟩ = some (.slice ad (dlen (p j)) (dlen (p j))) := by rw [hb2.cell (World.block_lt_of_cell? _ _ c0)]; exact c0
                have hpj : p j < 10000000000000000 := by rw [ten_zero]; exact (unhide hps).lt j (by omega)
                have KV := hide (nlValue_any ad (p j) wr (n0.keep hb2).sl (Nat.le_trans (dlen_chunk hpj) (by decide)))
                have KA := hide (nlAppendChunk_any wo.heap.size m (16 * n) (p j) V t wr hr hf ht (unhide htx) (by omega) (by omega) hpj)
                have HS2 : Hid (bsv (TEN 0) p j + (V * TEN 0 + p j) * TEN 0 ^ j = A) := by
                  have h1 := unhide hsum
                  unfold Hid
                  rw [bsv, Nat.pow_succ] at h1
                  rw [Nat.add_mul, Nat.mul_assoc, Nat.mul_comm (TEN 0)]; omega
                rw [ten_zero] at KA
                clear hsum htx c0 hpj
                generalize V * TEN 0 + p j = V2 at *
                generalize p j = PJ at *
                go_wp2_with fail
                refine (unhide KV).mono ?_
                rintro e w' ⟨rfl, rfl⟩
                go_wp2_with fail
                refine (unhide KA).mono ?_
                rintro e w3 ⟨m', t', rfl, hr3, ht3, htx3, hm3, hw3⟩
                go_wp2
                go_roundg j
                case measure => omega
                case rel => exact ⟨j, m', V2, t', rfl, by omega, by go_num, rfl, by omega, ht3, htx3, HS2, hr3, hf.wr hw3 hbT, hw3.below hb2 (Nat.le_refl _) s2⟩
          · obtain ⟨k, rfl⟩ : ∃ k, l = k + 1 := ⟨l - 1, by omega⟩
            have hI : ((k + 1 : Nat) : Int) - 1 = (k : Int) := by omega
            rw [hI]
            clear hI
            obtain ⟨bT, ad, rfl, cT, nT⟩ := hpcT.at (i := k) (by omega)
            have cT2 : wr.cell? ⟨bT, k, none⟩ = some (.slice ad (dlen (FIV k)) (dlen (FIV k))) := by rw [hbI.cell (World.block_lt_of_cell? _ _ cT)]; exact cT
            have lT : dlen (FIV k) ≤ 4096 := fiv_len (by omega)
            have HPS := hide (pl_step (unhide hps))
            rw [ten_fiv] at HPS
            obtain ⟨kk, hkk⟩ : ∃ kk, Hid (2 * 2 ^ k = kk) := ⟨2 * 2 ^ k, hide rfl⟩
            have hkk0 : 0 < kk := by rw [← unhide hkk]; have := Nat.two_pow_pos k; omega
            have hkk1 : kk ≤ 4096 := by
              rw [← unhide hkk]
              have := Nat.pow_le_pow_right (show 0 < 2 by decide) (show k ≤ 9 by omega)
              have h9 : (2 : Nat) ^ 9 = 512 := by decide
              omega
            rw [unhide hkk] at HPS
            have esh : IntKind.i64.wrap (2 * 2 ^ k) = (kk : Int) := by
              have : (2 : Int) * 2 ^ k = (kk : Int) := by rw [← unhide hkk]; simp
              rw [this, IntKind.wrap_i64]; omega
            have KS := hide (nlSplit_any w1.heap.size d ad n c p (FIV k) kk wr.drew (hpcI.keep (Below.refl _ wr).drew) ((nT.keep hbI).drew) (fiv_pos k) (by omega) (unhide hps).len (by omega) hkk0 hkk1)
            have hn2 := (unhide HPS).n1024
            clear cT hps
            go_wp2
            go_region_with (go_at_call 80; refine (unhide KS).mono ?_; rintro e w3 ⟨d3, c3, rfl, hpc3, hb3⟩)
            all_goals
              go_wp2
              go_roundg k
              case measure => omega
              case rel => exact ⟨k, 2 * n, c3, d3, _, rfl, by omega, by go_num, rfl, hn2, hpc3.mono sb, HPS, hbI.drew.trans (hb3.mono sb)⟩
      · have hc0 : -1 ≤ cmpz (FIV (K + 1)) A2 ∧ cmpz (FIV (K + 1)) A2 ≤ 0 := by
          unfold cmpz; split
          · simp
          · rw [if_pos (by omega)]; simp
        obtain ⟨hc1, hc2⟩ := hc0
        have hK9 := ten_k9 ((unhide hTA).1 hge) lA
        have HKC := hide KC
        clear KC hge
        generalize cmpz (FIV (K + 1)) A2 = cz at *
        go_wp2_with fail
        refine (unhide HKC).mono ?_
        rintro e w4 ⟨rfl, hb4⟩
        have s4 := hb4.size
        have hba := below_alloc w4 (.cells #[.slice sq (dlen (FIV (K + 1))) (dlen (FIV (K + 1)))] 23)
        have hpc4 := (hpc.keep hb3).keep hb4
        obtain ⟨d', c', w5, hr, hpc5, hg, hd'⟩ := pc_append (w4.alloc (.cells #[.slice sq (dlen (FIV (K + 1))) (dlen (FIV (K + 1)))] 23)) w.heap.size d (K + 1) c FIV (hpc4.keep hba) w4.heap.size (FIV (K + 1)) sq (by rw [World.cell?_alloc_at _ _ _ _ rfl]; rfl) (((hsq.keep hb4).keep hba).mono (Nat.zero_le _))
          (fun b' o y e1 e2 => by
            have h1 := (hpc.block b' e1).2
            have h2 := (hsq.block b' o y e2).1
            omega) (by omega) (by simp; omega)
        have hb5 := hg.below (((hbel.trans (hb3.mono sb)).trans (hb4.mono (by omega))).trans (hba.mono (by omega))) (by simp; omega) (fun k hk e => by have := (hpc.block k e).1; omega)
        have hpc6 := hpc5.congr (q := FIV) (fun i hi => by
          by_cases e : i = K + 1
          · rw [e, upd_at]
          · rw [upd_ne _ _ e])
        have nsq5 : Nt w5 0 sq (FIV (K + 1)) := (((hsq.keep hb4).keep hba).mono (Nat.zero_le _)).grew hg (fun b' o y e1 e2 => by
            have h1 := (hpc.block b' e1).2
            have h2 := (hsq.block b' o y e2).1
            omega)
        have hkk3 : kk ≤ 512 := by
          rw [unhide hkk]
          have := Nat.pow_le_pow_right (show 0 < 2 by decide) (show K ≤ 8 by omega)
          have h9 : (2 : Nat) ^ 8 = 256 := by decide
          omega
        clear hpc5
        go_wp2_with (at_builtin; refine wpList_append_run rfl _ _ 66 rfl _ _ _ rfl rfl hr ?_)
        go_roundg (10 - (K + 1))
        case measure => omega
        case rel => exact ⟨K + 1, c', 2 * kk, d', sq, rfl, by omega, rfl, by go_num, by unfold Hid; rw [unhide hkk, Nat.pow_succ, Nat.mul_comm (2 ^ K) 2], by omega, rfl, nsq5, hpc6, hb5⟩
end Go.Proofs.Ygctai
