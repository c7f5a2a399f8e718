/-
  newton.appendChunk, newton.Decimal.
-/
import Derived.Test.YgctaiSplit
namespace Go.Proofs.Ygctai
open Go.RowKit
set_option linter.unusedVariables false

theorem tp_all (X : Nat) : tp X (dlen X) = X := by unfold tp; exact Nat.mul_div_cancel _ (pow256_pos _)
theorem dlen_chunk {X : Nat} (h : X < 10000000000000000) : dlen X ≤ 7 := (dlen_le_iff _ _).2 (Nat.lt_of_lt_of_le h (by decide))
theorem ten_step (X k : Nat) : X / 10 ^ k = 10 * (X / 10 ^ (k + 1)) + X / 10 ^ k % 10 := by
  rw [Nat.pow_succ, ← Nat.div_div_eq_div_mul]; omega

/-- A text of decimals without zeros ahead that stand for V; empty for 0. -/
structure Txt (t : Nat → Nat) (m V : Nat) : Prop where
  dgt : ∀ i, i < m → Dgt (t i)
  lead : 0 < m → t 0 ≠ 48
  sum : dec t m = V
theorem Txt.pos {t : Nat → Nat} {m V : Nat} (h : Txt t m V) (hm : 0 < m) : 0 < V := by
  have h1 := dec_ge m hm (t := t) (by have := (h.dgt 0 hm).1; have := h.lead hm; omega)
  have := h.sum
  have : 0 < 10 ^ (m - 1) := Nat.pow_pos (by decide)
  omega
theorem txt_put {t : Nat → Nat} {m V d : Nat} (h : Txt t m V) (hd : d < 10) (h0 : d ≠ 0 ∨ 0 < m) : Txt (upd t m (48 + d)) (m + 1) (10 * V + d) := by
  refine ⟨fun i hi => ?_, fun _ => ?_, ?_⟩
  · by_cases e : i = m
    · rw [e, upd_at]; exact ⟨by omega, by omega⟩
    · rw [upd_ne _ _ e]; exact h.dgt i (by omega)
  · by_cases e : 0 = m
    · rw [← e, upd_at]; omega
    · rw [upd_ne _ _ e]; exact h.lead (by omega)
  · rw [dec, upd_at, dec_congr m (fun i hi => upd_ne t (48 + d) (by omega)), h.sum]; omega
theorem txt_zero {t : Nat → Nat} {V : Nat} (h : Txt t 0 V) : V = 0 := by have := h.sum; rw [dec] at this; omega

theorem quo64 {v P : Nat} (hv : v < 18446744073709551616) : IntKind.u64.wrap ((v : Int) / (P : Int)) = ((v / P : Nat) : Int) := by
  have h1 : v / P ≤ v := Nat.div_le_self _ _
  rw [IntKind.wrap_u64, ← Int.natCast_ediv]
  exact Int.emod_eq_of_lt (Int.natCast_nonneg _) (by generalize v / P = q at *; omega)

set_option maxRecDepth 100000 in
set_option maxHeartbeats 2000000 in
/-- newton.appendChunk. -/
theorem appendChunk_any (T m cap X V : Nat) (t : Nat → Nat) (a : Option Addr) (w : World) (hrow : Row w T 0 cap (oct t)) (hfree : Free w T 0 cap) (ht : Byt t) (htx : Txt t m V) (hm : m + 16 ≤ cap) (hcap : cap ≤ 1048576) (ha : Nt w 0 a X) (hX : X < 10000000000000000) :
    Calls Taig.prog 62 #[.slice (some ⟨T, 0, none⟩) m cap, .slice a (dlen X) (dlen X)] w fun e w' => ∃ m' t', e = .returned (.slice (some ⟨T, 0, none⟩) m' cap) ∧ Row w' T 0 cap (oct t') ∧ Byt t' ∧ Txt t' m' (V * 10000000000000000 + X) ∧ m' ≤ m + 16 ∧ Wr T 0 cap w w' := by
  have lX := dlen_chunk hX
  have KT := top_any a X (dlen X) w ha.sl (by omega) (by omega)
  rw [tp_all] at KT
  have HKT := hide KT
  have hbl := hrow.block_lt (by omega)
  clear KT
  go_enter Taig.func62, Taig.ntmps62
  go_wp2_with fail
  refine (unhide HKT).mono ?_
  rintro e w' ⟨rfl, rfl⟩
  go_wp2
  go_loopg [0, 6, 7] 16 (fun gk tv pv iv wr => ∃ (j m' P : Nat) (t' : Nat → Nat), gk = 16 - j ∧ j ≤ 16 ∧ iv = .int .i64 j ∧ tv = .slice (some ⟨T, 0, none⟩) m' cap ∧ pv = .int .u64 P ∧ P ≤ 1000000000000000 ∧ Hid (j < 16 → P = 10 ^ (15 - j)) ∧ m' ≤ m + j ∧ Byt t' ∧ Hid (Txt t' m' (V * 10 ^ j + X / 10 ^ (16 - j))) ∧ Row wr T 0 cap (oct t') ∧ Free wr T 0 cap ∧ Wr T 0 cap w wr)
  case atStart => exact ⟨0, m, 1000000000000000, t, rfl, by omega, rfl, rfl, rfl, Nat.le_refl _, fun _ => rfl, by omega, ht, by
    unfold Hid; rw [Nat.pow_zero, Nat.mul_one, Nat.div_eq_of_lt (by simpa using hX), Nat.add_zero]; exact htx, hrow, hfree, Wr.refl _ _ _ _⟩
  case round =>
    obtain ⟨j, m', P, t', rfl, hj, rfl, rfl, rfl, hP1, hP, hm', ht', htx', hr, hf, hwr⟩ := hrel
    have sw := hwr.size
    by_cases hlt : j < 16
    · have hP2 := unhide hP hlt
      have hP0 : 0 < P := by rw [hP2]; exact Nat.pow_pos (by decide)
      obtain ⟨Y, HY⟩ : ∃ Y, Hid (X / P = Y) := ⟨_, rfl⟩
      have q1 : IntKind.u64.wrap ((X : Int) / (P : Int)) = (Y : Int) := by rw [← unhide HY]; exact quo64 (by omega)
      have e0 : ((P : Int) == 0) = false := by simp; omega
      have hXP : X / P ≤ X := Nat.div_le_self _ _
      obtain ⟨d, HDD⟩ : ∃ d, Hid (X / P % 10 = d) := ⟨_, rfl⟩
      have q3 : (Y : Int).tmod 10 = (d : Int) := by rw [Int.tmod_eq_emod_of_nonneg (by omega), ← unhide HDD, unhide HY]; omega
      have hd10 : d < 10 := by rw [← unhide HDD]; exact Nat.mod_lt _ (by decide)
      have q4 : (d : Int) % 256 = (d : Int) := by omega
      have HV : Hid (V * 10 ^ (j + 1) + X / 10 ^ (16 - (j + 1)) = 10 * (V * 10 ^ j + X / 10 ^ (16 - j)) + d) := by
        have h1 := ten_step X (15 - j)
        rw [← hP2, unhide HDD, show 15 - j + 1 = 16 - j by omega] at h1
        unfold Hid
        rw [show 16 - (j + 1) = 15 - j by omega, ← hP2, h1, Nat.pow_succ, Nat.mul_add, ← Nat.mul_assoc, Nat.mul_comm _ 10, Nat.add_assoc]
      have HP' : Hid (j + 1 < 16 → P / 10 = 10 ^ (15 - (j + 1))) := fun h => by
        rw [hP2, show 15 - j = (15 - (j + 1)) + 1 by omega, Nat.pow_succ, Nat.mul_div_cancel _ (by decide)]
      have hPd : P / 10 ≤ 1000000000000000 := by omega
      clear hP2
      have c1 := hr.cell (i := m') (by omega)
      have f1 := hf m' (by omega)
      have hbT := hr.block_lt (by omega : 0 < cap)
      simp only [Nat.zero_add, oct_at] at c1 f1
      by_cases hput : d ≠ 0 ∨ 0 < m'
      · have HT2 := hide (txt_put (unhide htx') hd10 hput)
        rw [← unhide HV] at HT2
        clear htx' HV
        by_cases hd0 : d = 0
        · have hm0 : 0 < m' := by omega
          have b1 : ((d : Int) == 0) = true := by simp; omega
          have b2 : ((d : Int) != 0) = false := by simp; omega
          clear hd0 hput
          go_wp2
          go_roundg (16 - (j + 1))
          case measure => omega
          case rel => exact ⟨j + 1, m' + 1, P / 10, upd t' m' (48 + d), rfl, by omega, by go_num, rfl, int_eq (by omega), hPd, HP', by omega, ht'.upd _ _ (by omega), HT2, (hr.put m' (48 + d) (by omega) (Nat.zero_add _).symm (by omega)).alloc _, (hf.setCell _ _).below (below_alloc _ _) (by simp; exact hbT), (hwr.setCell (Nat.zero_le _) (by omega) _).trans (Wr.of_below (below_alloc _ _) (by simp; exact hbT))⟩
        · have b1 : ((d : Int) == 0) = false := by simp; omega
          have b2 : ((d : Int) != 0) = true := by simp; omega
          clear hput
          go_wp2
          go_roundg (16 - (j + 1))
          case measure => omega
          case rel => exact ⟨j + 1, m' + 1, P / 10, upd t' m' (48 + d), rfl, by omega, by go_num, rfl, int_eq (by omega), hPd, HP', by omega, ht'.upd _ _ (by omega), HT2, (hr.put m' (48 + d) (by omega) (Nat.zero_add _).symm (by omega)).alloc _, (hf.setCell _ _).below (below_alloc _ _) (by simp; exact hbT), (hwr.setCell (Nat.zero_le _) (by omega) _).trans (Wr.of_below (below_alloc _ _) (by simp; exact hbT))⟩
      · have HT2 : Hid (Txt t' m' (V * 10 ^ (j + 1) + X / 10 ^ (16 - (j + 1)))) := by
          have h1 := unhide htx'
          have hm0 : m' = 0 := by omega
          rw [hm0] at h1
          have h2 := txt_zero h1
          rw [h2] at h1
          unfold Hid
          rw [unhide HV, h2, hm0, show d = 0 by omega]
          exact h1
        have hm0 : m' ≤ 0 := by omega
        have b1 : ((d : Int) == 0) = true := by simp; omega
        have b2 : ((d : Int) != 0) = false := by simp; omega
        clear hput htx' HV
        go_wp2
        go_roundg (16 - (j + 1))
        case measure => omega
        case rel => exact ⟨j + 1, m', P / 10, t', rfl, by omega, by go_num, rfl, int_eq (by omega), hPd, HP', by omega, ht', HT2, hr, hf, hwr⟩
    · have hj16 : Hid (j = 16) := by unfold Hid; omega
      go_wp2
      go_ret
      refine ⟨m', t', rfl, hr, ht', ?_, by omega, hwr⟩
      have := unhide htx'
      rw [unhide hj16] at this
      simpa using this

/-! ### Decimal -/
theorem Pc.lt_pos {w : World} {B : Nat} {a : Option Addr} {n cap : Nat} {p : Nat → Nat} (h : Pc w B a n cap p) : n ≤ cap := h.le

/-- n pieces below TEN l stand for A. -/
structure Ps (A l n : Nat) (p : Nat → Nat) : Prop where
  sum : bsv (TEN l) p n = A
  lt : ∀ i, i < n → p i < TEN l
  len : ∀ i, i < n → dlen (p i) ≤ 512
  few : n * 2 ^ l ≤ 128
  pos : 0 < n
theorem ps_start {A l : Nat} {p : Nat → Nat} (h0 : p 0 = A) (h1 : A < TEN l) (h2 : dlen A ≤ 512) (hl : l ≤ 7) : Ps A l 1 p := by
  refine ⟨by simp [bsv, h0], fun i hi => ?_, fun i hi => ?_, ?_, by omega⟩
  · obtain rfl : i = 0 := by omega
    rw [h0]; exact h1
  · obtain rfl : i = 0 := by omega
    rw [h0]; exact h2
  · have : 2 ^ l ≤ 2 ^ 7 := Nat.pow_le_pow_right (by decide) hl
    omega
theorem ps_step {A l n : Nat} {p : Nat → Nat} (h : Ps A (l + 1) n p) : Ps A l (2 * n) (sp p (TEN l)) := by
  have hT := ten_pos l
  refine ⟨by rw [bsv_sp, ← ten_succ]; exact h.sum, fun j hj => ?_, fun j hj => ?_, ?_, by have := h.pos; omega⟩
  · have h1 := h.lt (j / 2) (by omega)
    rw [ten_succ] at h1
    unfold sp; split
    · exact Nat.mod_lt _ hT
    · rw [Nat.div_lt_iff_lt_mul hT]; exact h1
  · have h1 := h.len (j / 2) (by omega)
    refine Nat.le_trans (dlen_mono ?_) h1
    unfold sp; split
    · exact Nat.mod_le _ _
    · exact Nat.div_le_self _ _
  · have := h.few
    rw [Nat.pow_succ, ← Nat.mul_assoc, Nat.mul_right_comm] at this
    rw [Nat.mul_comm 2 n]; exact this
theorem Ps.n128 {A l n : Nat} {p : Nat → Nat} (h : Ps A l n p) : n ≤ 128 := by
  have h1 := h.few
  have h2 : n * 1 ≤ n * 2 ^ l := Nat.mul_le_mul_left _ (Nat.two_pow_pos l)
  omega

attribute [local irreducible] TEN
set_option maxRecDepth 100000 in
set_option maxHeartbeats 4000000 in
/-- newton.Decimal. -/
theorem newtonDecimal_good (a : Option Addr) (A : Nat) (w : World) (ha : Nt w 0 a A) (lA : dlen A ≤ 512) :
    Calls Taig.prog 28 #[.slice a (dlen A) (dlen A)] w fun e w' => ∃ T m c t, e = .returned (.tuple #[.slice (some ⟨T, 0, none⟩) m c, .bool true]) ∧ Row w' T 0 m (oct t) ∧ Byt t ∧ (∀ i, i < m → Dgt (t i)) ∧ 0 < m ∧ (m = 1 ∨ t 0 ≠ 48) ∧ dec t m = A ∧ m ≤ c ∧ c ≤ 2048 ∧ Below w.heap.size w w' := by
  have k1 := hide (newtonNormal_nt 0 a A w ha (by omega))
  have KP := hide (powers_any a A w ha lA)
  go_enter Taig.func28, Taig.ntmps28
  go_wp2_with fail
  refine (unhide k1).mono ?_
  rintro e w' ⟨rfl, rfl⟩
  go_wp2_with fail
  refine (unhide KP).mono ?_
  rintro e w1 ⟨K, c1, d1, rfl, hpcT, hK, hAK, hb1⟩
  have s1 := hb1.size
  have hpcA := pc_one w1 w1.heap.size a A (fun _ => A) (ha.keep hb1) rfl (Nat.le_refl _)
  have hba := below_alloc w1 (.cells #[.slice a (dlen A) (dlen A)] 23)
  have HS0 := hide (ps_start (p := fun _ => A) rfl hAK lA (by omega))
  clear hAK KP k1
  go_wp2
  go_loopg [5, 6] (K + 1) (fun gl pv kv wr => ∃ (l n c : Nat) (d : Option Addr) (p : Nat → Nat), l = gl ∧ l ≤ K + 1 ∧ kv = .int .i64 ((l : Int) - 1) ∧ pv = .slice d n c ∧ n ≤ 128 ∧ Pc wr w1.heap.size d n c p ∧ Hid (Ps A l n p) ∧ Below w1.heap.size w1 wr)
  case atStart => exact ⟨K + 1, 1, 1, _, _, rfl, Nat.le_refl _, int_eq (by omega), rfl, by omega, hpcA, HS0, hba⟩
  case round =>
    clear hpcA hba HS0
    obtain ⟨l, n, c, d, p, rfl, hl, rfl, rfl, hn, hpc, hps, hbel⟩ := hrel
    have sb := hbel.size
    rcases Nat.eq_zero_or_pos l with h0 | h0
    · subst h0
      have hn0 := (unhide hps).pos
      have hmk : ∀ w, (Instr.makeSlice 22 (.int .i64 0) (.int .i64 (16 * (n : Int)))).run Taig.prog w = .ok (.slice (some ⟨w.heap.size, 0, none⟩) 0 (16 * n)) (w.alloc (made (.int .u8 0) (16 * n) 5)) := fun w => make22cap (16 * n) (by omega) w
      obtain ⟨wo, rfl⟩ : ∃ x, x = wr := ⟨wr, rfl⟩
      go_wp2
      clear hmk
      go_loopg [9, 10] n (fun gl tv iv wr => ∃ (l m V : Nat) (t : Nat → Nat), l = gl ∧ l ≤ n ∧ iv = .int .i64 ((l : Int) - 1) ∧ tv = .slice (some ⟨wo.heap.size, 0, none⟩) m (16 * n) ∧ m + 16 * l ≤ 16 * n ∧ Byt t ∧ Hid (Txt t m V) ∧ Hid (bsv (TEN 0) p l + V * TEN 0 ^ l = A) ∧ Row wr wo.heap.size 0 (16 * n) (oct t) ∧ Free wr wo.heap.size 0 (16 * n) ∧ Below wo.heap.size wo wr)
      case atStart => exact ⟨n, 0, 0, fun _ => 0, rfl, Nat.le_refl _, rfl, rfl, by omega, byt_zero, ⟨fun i hi => absurd hi (by omega), fun h => absurd h (by omega), rfl⟩, by unfold Hid; rw [Nat.zero_mul, Nat.add_zero]; exact (unhide hps).sum, row_made _ _ _ _, free_made _ _ _ _, below_alloc _ _⟩
      case round =>
        obtain ⟨l, m, V, t, rfl, hl, rfl, rfl, hm, ht, htx, hsum, hr, hf, hb2⟩ := hrel
        have hbT := hr.block_lt (by omega : 0 < 16 * n)
        have s2 := hb2.size
        rcases Nat.eq_zero_or_pos l with h0 | h0
        · subst h0
          have hVA : V = A := by have := unhide hsum; simpa [bsv] using this
          rcases Nat.eq_zero_or_pos m with hm0 | hm0
          · subst hm0
            have hA0 : Hid (A = 0) := by unfold Hid; rw [← hVA]; exact txt_zero (unhide htx)
            have ct := hr.cell (i := 0) (by omega)
            have ft := hf 0 (by omega)
            simp only [Nat.zero_add, oct_at] at ct ft
            clear hsum hVA htx hps
            go_wp2
            go_ret2
            exact ⟨_, 1, 16 * n, upd t 0 48, rfl, ((hr.put (o := 0) (z := 48) 0 48 (by omega) (by omega) rfl).alloc _).sub (by omega), ht.upd _ _ (by omega), fun i hi => by
              obtain rfl : i = 0 := by omega
              rw [upd_at]; exact ⟨by omega, by omega⟩, by omega, .inl rfl, by rw [unhide hA0]; simp [dec, upd_at], by omega, by omega, (hb1.trans (hbel.mono s1)).trans ((hb2.setCell (Nat.le_refl _) _ |>.alloc (by simp; omega) _).mono (by omega))⟩
          · have hm1 : ((m : Int) == 0) = false := by simp; omega
            have HVA := hide hVA
            clear hsum hVA hps
            go_wp2
            go_ret2
            exact ⟨_, m, 16 * n, t, rfl, hr.sub (by omega), ht, (unhide htx).dgt, hm0, .inr ((unhide htx).lead hm0), by rw [← unhide HVA]; exact (unhide htx).sum, by omega, by omega, (hb1.trans (hbel.mono s1)).trans (hb2.mono (by omega))⟩
        · obtain ⟨j, rfl⟩ : ∃ j, l = j + 1 := ⟨l - 1, by omega⟩
          obtain ⟨bp, ad, rfl, c0, n0⟩ := hpc.at (i := j) (by omega)
          have c2 : wr.cell? ⟨bp, j, none⟩ = some (.slice ad (dlen (p j)) (dlen (p j))) := by rw [hb2.cell (World.block_lt_of_cell? _ _ c0)]; exact c0
          have hpj : p j < 10000000000000000 := by rw [ten_zero]; exact (unhide hps).lt j (by omega)
          have KA := hide (appendChunk_any wo.heap.size m (16 * n) (p j) V t ad wr hr hf ht (unhide htx) (by omega) (by omega) (n0.keep hb2) hpj)
          have HS2 : Hid (bsv (TEN 0) p j + (V * TEN 0 + p j) * TEN 0 ^ j = A) := by
            have h1 := unhide hsum
            unfold Hid
            rw [bsv, Nat.pow_succ] at h1
            rw [Nat.add_mul, Nat.mul_assoc, Nat.mul_comm (TEN 0)]; omega
          rw [ten_zero] at KA
          clear hsum htx c0 hpj
          generalize V * TEN 0 + p j = V2 at *
          generalize p j = PJ at *
          go_wp2_with fail
          refine (unhide KA).mono ?_
          rintro e w3 ⟨m', t', rfl, hr3, ht3, htx3, hm3, hw3⟩
          go_wp2
          go_roundg j
          case measure => omega
          case rel => exact ⟨j, m', V2, t', rfl, by omega, by go_num, rfl, by omega, ht3, htx3, HS2, hr3, hf.wr hw3 hbT, hw3.below hb2 (Nat.le_refl _) s2⟩
    · obtain ⟨k, rfl⟩ : ∃ k, l = k + 1 := ⟨l - 1, by omega⟩
      obtain ⟨bT, ad, rfl, cT, nT⟩ := hpcT.at (i := k) (by omega)
      have cT2 : wr.cell? ⟨bT, k, none⟩ = some (.slice ad (dlen (TEN k)) (dlen (TEN k))) := by rw [hbel.cell (World.block_lt_of_cell? _ _ cT)]; exact cT
      have lT : dlen (TEN k) ≤ 512 := (dlen_le_iff _ _).2 (Nat.lt_of_le_of_lt (ten_mono (by omega)) ten6)
      have HPS := hide (ps_step (unhide hps))
      have KS := hide (split_any w1.heap.size d ad n c p (TEN k) wr hpc (nT.keep hbel) (ten_pos k) lT (unhide hps).len (by omega))
      have hn2 := (unhide HPS).n128
      clear cT hps
      generalize hTk : TEN k = Tk at *
      clear hTk
      go_wp2_with fail
      refine (unhide KS).mono ?_
      rintro e w3 ⟨d3, c3, rfl, hpc3, hb3⟩
      go_wp2
      go_roundg k
      case measure => omega
      case rel => exact ⟨k, 2 * n, c3, d3, _, rfl, by omega, by go_num, rfl, hn2, hpc3.mono (by omega), HPS, hbel.trans (hb3.mono (by omega))⟩
end Go.Proofs.Ygctai
