/-
  nschool.DivSchool.
-/
import Derived.Test.YgctaiSch
import Derived.Test.YgctaiNewtE
namespace Go.Proofs.Ygctai
open Go.RowKit
set_option linter.unusedVariables false

/-! ### plain -/
theorem half_step (A i : Nat) : A / 2 ^ i = 2 * (A / 2 ^ (i + 1)) + A / 2 ^ i % 2 := by
  rw [Nat.pow_succ, ← Nat.div_div_eq_div_mul]; omega
theorem ds_small {A D i r2 : Nat} (h2 : r2 = 2 * (A / 2 ^ (i + 1) % D) + A / 2 ^ i % 2) (h : r2 < D) : A / 2 ^ i % D = r2 ∧ A / 2 ^ i / D = 2 * (A / 2 ^ (i + 1) / D) := by
  have h1 := half_step A i
  have h3 := Nat.div_add_mod (A / 2 ^ (i + 1)) D
  have h4 : 2 * (A / 2 ^ (i + 1) / D) * D + r2 = A / 2 ^ i := by
    rw [h1, h2, Nat.mul_assoc, Nat.mul_comm _ D]
    omega
  obtain ⟨e1, e2⟩ := div_done h4 h
  exact ⟨e2, e1⟩
theorem ds_big {A D i r2 : Nat} (hD : 0 < D) (h2 : r2 = 2 * (A / 2 ^ (i + 1) % D) + A / 2 ^ i % 2) (h : D ≤ r2) : A / 2 ^ i % D = r2 - D ∧ A / 2 ^ i / D = 2 * (A / 2 ^ (i + 1) / D) + 1 := by
  have h1 := half_step A i
  have h3 := Nat.div_add_mod (A / 2 ^ (i + 1)) D
  have h5 := Nat.mod_lt (A / 2 ^ (i + 1)) hD
  have h4 : (2 * (A / 2 ^ (i + 1) / D) + 1) * D + (r2 - D) = A / 2 ^ i := by
    rw [Nat.add_mul, Nat.one_mul, h1, h2, Nat.mul_assoc, Nat.mul_comm _ D]
    omega
  obtain ⟨e1, e2⟩ := div_done h4 (by omega)
  exact ⟨e2, e1⟩
theorem rest_fits {r D L v : Nat} (hr : r < D) (hD : D < 256 ^ L) (hv : v ≤ 1) : (2 * r + v) % 256 ^ (L + 1) = 2 * r + v := by
  apply Nat.mod_eq_of_lt
  rw [pow256_succ]; omega
theorem or_bit {d k : Nat} (hm : d % 2 ^ (k + 1) = 0) : d ||| 2 ^ k = d + 2 ^ k := by
  have h1 := Nat.shiftLeft_add_eq_or_of_lt (i := k + 1) (b := 2 ^ k) (Nat.pow_lt_pow_right (by decide) (by omega)) (d / 2 ^ (k + 1))
  rw [Nat.shiftLeft_eq, show d / 2 ^ (k + 1) * 2 ^ (k + 1) = d by have := Nat.div_add_mod d (2 ^ (k + 1)); rw [Nat.mul_comm]; omega] at h1
  exact h1.symm
theorem orq {d k : Nat} (hd : d < 256) (hk : k < 8) (hm : d % 2 ^ (k + 1) = 0) : d + 2 ^ k < 256 ∧ bits .or .u8 (d : Int) ((2 : Int) ^ k % 256) = ((d + 2 ^ k : Nat) : Int) := by
  have h1 := or_bit hm
  have h2 : 2 ^ k < 256 ∧ d + 2 ^ k < 256 := by
    rcases (by omega : k = 0 ∨ k = 1 ∨ k = 2 ∨ k = 3 ∨ k = 4 ∨ k = 5 ∨ k = 6 ∨ k = 7) with h | h | h | h | h | h | h | h
    all_goals subst h; simp only [Nat.zero_add, Nat.reduceAdd, Nat.reducePow] at hm ⊢; omega
  refine ⟨h2.2, ?_⟩
  have := u8_or_nat d (2 ^ k) hd h2.1
  rw [h1] at this
  rw [← this]
  congr 1
  rw [show ((2 : Int) ^ k) = ((2 ^ k : Nat) : Int) by simp]
  exact Int.emod_eq_of_lt (by omega) (by omega)
/-- The digit into which bit i goes has none from there down. -/
theorem quot_dig {f : Nat → Nat} {n q i : Nat} (hf : Byt f) (hv : val f n = q * 2 ^ (i + 1)) (hi : i / 8 < n) : f (i / 8) % 2 ^ (i % 8 + 1) = 0 := by
  rw [← dig_val hf.lt hi, hv]
  unfold dig
  have e : i + 1 = 8 * (i / 8) + (i % 8 + 1) := by omega
  have h8 : i % 8 < 8 := Nat.mod_lt _ (by decide)
  rw [e, Nat.pow_add, two_pow8, ← Nat.mul_assoc, Nat.mul_right_comm, Nat.mul_div_cancel _ (pow256_pos _)]
  generalize i % 8 = k at *
  have h2 : 256 = 2 ^ (k + 1) * 2 ^ (7 - k) := by rw [← Nat.pow_add, show k + 1 + (7 - k) = 8 by omega]
  rw [h2, Nat.mod_mul_right_mod, Nat.mul_mod_left]
theorem quot_put {f : Nat → Nat} {n q i : Nat} (hv : val f n = q * 2 ^ (i + 1)) (hi : i / 8 < n) : val (upd f (i / 8) (f (i / 8) + 2 ^ (i % 8))) n = (2 * q + 1) * 2 ^ i := by
  have h1 := val_upd f (f (i / 8) + 2 ^ (i % 8)) hi
  have h2 : 2 ^ (i % 8) * 256 ^ (i / 8) = 2 ^ i := by rw [← two_pow8, ← Nat.pow_add, show i % 8 + 8 * (i / 8) = i by omega]
  rw [Nat.add_mul, h2, hv, Nat.pow_succ] at h1
  rw [Nat.add_mul, Nat.one_mul, Nat.mul_comm 2 q, Nat.mul_assoc, Nat.mul_comm 2 (2 ^ i)]
  omega

/-! ### three rows made in one statement -/
/-- The world behind three makes. -/
def made3 (w : World) (x y z : Nat) : World := (((w.alloc (made (.int .u8 0) x 5)).alloc (made (.int .u8 0) y 5)).alloc (made (.int .u8 0) z 5)).drew
theorem size3 (w : World) (x y z : Nat) : (made3 w x y z).heap.size = w.heap.size + 1 + 1 + 1 := by simp [made3]
theorem row3a (w : World) (x y z : Nat) : Row (made3 w x y z) w.heap.size 0 x (oct fun _ => 0) := ((row_made w (.int .u8 0) x 5).alloc _).alloc _
theorem row3b (w : World) (x y z : Nat) : Row (made3 w x y z) (w.heap.size + 1) 0 y (oct fun _ => 0) := by
  have := (row_made (w.alloc (made (.int .u8 0) x 5)) (.int .u8 0) y 5).alloc (made (.int .u8 0) z 5)
  simp only [World.size_alloc] at this
  exact this
theorem row3c (w : World) (x y z : Nat) : Row (made3 w x y z) (w.heap.size + 1 + 1) 0 z (oct fun _ => 0) := by
  have := row_made ((w.alloc (made (.int .u8 0) x 5)).alloc (made (.int .u8 0) y 5)) (.int .u8 0) z 5
  simp only [World.size_alloc] at this
  exact this
theorem free3a (w : World) (x y z : Nat) : Free (made3 w x y z) w.heap.size 0 x := by
  have h1 := (free_made w (.int .u8 0) x 5).below (below_alloc (w.alloc (made (.int .u8 0) x 5)) (made (.int .u8 0) y 5)) (by simp)
  have h2 := h1.below (below_alloc ((w.alloc (made (.int .u8 0) x 5)).alloc (made (.int .u8 0) y 5)) (made (.int .u8 0) z 5)) (by simp; omega)
  exact h2.drew
theorem free3b (w : World) (x y z : Nat) : Free (made3 w x y z) (w.heap.size + 1) 0 y := by
  have := (free_made (w.alloc (made (.int .u8 0) x 5)) (.int .u8 0) y 5).below (below_alloc _ (made (.int .u8 0) z 5)) (by simp)
  simp only [World.size_alloc] at this
  exact this.drew
theorem free3c (w : World) (x y z : Nat) : Free (made3 w x y z) (w.heap.size + 1 + 1) 0 z := by
  have := free_made ((w.alloc (made (.int .u8 0) x 5)).alloc (made (.int .u8 0) y 5)) (.int .u8 0) z 5
  simp only [World.size_alloc] at this
  exact this.drew
theorem below3 (w : World) (x y z : Nat) : Below w.heap.size w (made3 w x y z) :=
  belowN (((below_alloc w (made (.int .u8 0) x 5)).alloc (by simp) (made (.int .u8 0) y 5)).alloc (by simp; omega) (made (.int .u8 0) z 5)) 1

/-- The three rows of DivSchool. -/
structure DivRows (B n L : Nat) (w : World) (bq br bw : Nat) (fq fr fw : Nat → Nat) : Prop where
  rq : Row w bq 0 n (oct fq)
  qq : Free w bq 0 n
  rr : Row w br 0 (L + 1) (oct fr)
  qr : Free w br 0 (L + 1)
  rw : Row w bw 0 (L + 1) (oct fw)
  qw : Free w bw 0 (L + 1)
  d1 : bq ≠ br
  d2 : bq ≠ bw
  d3 : br ≠ bw
  o1 : B ≤ bq
  o2 : B ≤ br
  o3 : B ≤ bw
  l1 : bq < w.heap.size

theorem DivRows.keep {B n L : Nat} {w w' : World} {bq br bw : Nat} {fq fr fw : Nat → Nat} (h : DivRows B n L w bq br bw fq fr fw) (hb : Below w.heap.size w w') : DivRows B n L w' bq br bw fq fr fw where
  rq := h.rq.keep hb
  qq := h.qq.below hb h.l1
  rr := h.rr.keep hb
  qr := h.qr.below hb (h.rr.block_lt (by omega))
  rw := h.rw.keep hb
  qw := h.qw.below hb (h.rw.block_lt (by omega))
  d1 := h.d1
  d2 := h.d2
  d3 := h.d3
  o1 := h.o1
  o2 := h.o2
  o3 := h.o3
  l1 := Nat.lt_of_lt_of_le h.l1 hb.size

set_option maxRecDepth 100000 in
set_option maxHeartbeats 4000000 in
theorem divSchool_good (a b : Option Addr) (A D : Nat) (w : World) (ha : Nt w 0 a A) (hb : Nt w 0 b D) (hD : 0 < D) (l1 : dlen A ≤ 1048576) (l2 : dlen D ≤ 1048576) :
    Calls Taig.prog 25 #[.slice a (dlen A) (dlen A), .slice b (dlen D) (dlen D)] w fun e w' => ∃ q r, e = .returned (.tuple #[.slice q (dlen (A / D)) (dlen (A / D)), .slice r (dlen (A % D)) (dlen (A % D)), .bool true]) ∧
      Nt w' w.heap.size q (A / D) ∧ Nt w' w.heap.size r (A % D) ∧ Below w.heap.size w w' := by
  have hd := dlen_pos hD
  have e1 : ((dlen D : Int) == 0) = false := by simp; omega
  have K := normal_any b (dlen D) (dlen D) (dig D) w hb.sl (byt_dig _) (Nat.le_refl _) (by omega) (by omega)
  rw [val_dig_dlen] at K
  have HK := hide K
  have HD := hide hD
  clear K hD
  obtain ⟨Q, HQ⟩ : ∃ Q, Hid (A / D = Q) := ⟨_, rfl⟩
  obtain ⟨R, HR⟩ : ∃ R, Hid (A % D = R) := ⟨_, rfl⟩
  rw [unhide HQ, unhide HR]
  have hm1 := make22 (dlen A) (by omega)
  have hm2 : ∀ w, (Instr.makeSlice 22 (.int .i64 ((dlen D : Int) + 1)) (.int .i64 ((dlen D : Int) + 1))).run Taig.prog w = .ok (.slice (some ⟨w.heap.size, 0, none⟩) (dlen D + 1) (dlen D + 1)) (w.alloc (made (.int .u8 0) (dlen D + 1) 5)) := fun w => make22 (dlen D + 1) (by omega) w
  go_enter Taig.func25, Taig.ntmps25
  go_wp2_with fail
  refine (unhide HK).mono ?_
  rintro e w1 ⟨yb, rfl, hy, hb1⟩
  have s1 := hb1.size
  go_wp2
  go_cut [8, 9, 10] (fun qv rv wv wc => ∃ bq br bw, qv = .slice (some ⟨bq, 0, none⟩) (dlen A) (dlen A) ∧ rv = .slice (some ⟨br, 0, none⟩) (dlen D + 1) (dlen D + 1) ∧ wv = .slice (some ⟨bw, 0, none⟩) (dlen D + 1) (dlen D + 1) ∧ DivRows w1.heap.size (dlen A) (dlen D) wc bq br bw (fun _ => 0) (fun _ => 0) (fun _ => 0) ∧ Below w1.heap.size w1 wc)
  case first =>
    go_region
    all_goals
      go_wp2
      go_meet
      case rel =>
        refine ⟨_, _, _, rfl, rfl, rfl, ?_, below3 w1 _ _ _⟩
        constructor
        all_goals first
          | exact row3a w1 _ _ _
          | exact row3b w1 _ _ _
          | exact row3c w1 _ _ _
          | exact free3a w1 _ _ _
          | exact free3b w1 _ _ _
          | exact free3c w1 _ _ _
          | omega
          | (refine Nat.lt_of_lt_of_eq ?_ (size3 w1 _ _ _).symm; omega)
  case rest =>
    obtain ⟨bq, br, bw, rfl, rfl, rfl, hrs, hb2⟩ := hcut
    have s2 := hb2.size
    obtain ⟨w3, hrun, hwr, hrow3⟩ := copy_oct 22 23 3 Taig.underlying22 wc bw 0 (dlen D + 1) (dlen D + 1) yb (dlen D) (dlen D) (dig D) (fun _ => 0) hrs.rw hrs.qw (hy.keep hb2).sl
    rw [Nat.min_eq_left (Nat.le_succ _)] at hrun hwr hrow3
    have hwide : Row w3 bw 0 (dlen D + 1) (oct (dig D)) := hrow3.congr fun i hi => by
      rw [oct_at, oct_at]
      split
      · rfl
      · rw [dig_ge (by omega)]
    have hrs3 : DivRows w1.heap.size (dlen A) (dlen D) w3 bq br bw (fun _ => 0) (fun _ => 0) (dig D) := {
      rq := hrs.rq.wr hwr (.inl hrs.d2)
      qq := hrs.qq.wr hwr hrs.l1
      rr := hrs.rr.wr hwr (.inl hrs.d3)
      qr := hrs.qr.wr hwr (hrs.rr.block_lt (by omega))
      rw := hwide
      qw := hrs.qw.wr hwr (hrs.rw.block_lt (by omega))
      d1 := hrs.d1
      d2 := hrs.d2
      d3 := hrs.d3
      o1 := hrs.o1
      o2 := hrs.o2
      o3 := hrs.o3
      l1 := Nat.lt_of_lt_of_le hrs.l1 hwr.size }
    have hb3 : Below w1.heap.size w1 w3 := hwr.below hb2 hrs.o3 s2
    clear hwide hrow3 hwr hrs
    go_wp2
    go_loopg [11] (8 * dlen A) (fun gl iv wr => ∃ (l : Nat) (fq fr : Nat → Nat), l = gl ∧ l ≤ 8 * dlen A ∧ iv = .int .i64 ((l : Int) - 1) ∧ Byt fq ∧ Byt fr ∧ DivRows w1.heap.size (dlen A) (dlen D) wr bq br bw fq fr (dig D) ∧ Hid (val fr (dlen D + 1) = A / 2 ^ l % D) ∧ Hid (val fq (dlen A) = A / 2 ^ l / D * 2 ^ l) ∧ Below w1.heap.size w1 wr)
    case atStart =>
      have h0 : A / 2 ^ (8 * dlen A) = 0 := Nat.div_eq_of_lt (by rw [two_pow8]; exact lt_pow_dlen A)
      exact ⟨8 * dlen A, fun _ => 0, fun _ => 0, rfl, Nat.le_refl _, int_eq (by omega), byt_zero, byt_zero, hrs3, by unfold Hid; rw [h0, val_zero]; simp, by unfold Hid; rw [h0, val_zero]; simp, hb3⟩
    case round =>
      clear hrs3 hb3 hrun
      obtain ⟨l, fq, fr, rfl, hl, rfl, hfq, hfr, hr, hvr, hvq, hbel⟩ := hrel
      have sb := hbel.size
      rcases Nat.eq_zero_or_pos l with h0 | h0
      · subst h0
        have eq1 : val fq (dlen A) = Q := by have := unhide hvq; simpa [unhide HQ] using this
        have er1 : val fr (dlen D + 1) = R := by have := unhide hvr; simpa [unhide HR] using this
        have K1 := normal_any (some ⟨bq, 0, none⟩) (dlen A) (dlen A) fq wr (fun _ => ⟨_, _, rfl, hr.rq⟩) hfq (Nat.le_refl _) (by omega) (by omega)
        rw [eq1] at K1
        have HK1 := hide K1
        have hsr : Sl wr (some ⟨br, 0, none⟩) (dlen D + 1) fr := fun _ => ⟨_, _, rfl, hr.rr⟩
        clear K1 hr
        go_wp2_with fail
        refine (unhide HK1).mono ?_
        rintro e w4 ⟨qc, rfl, hqc, hb4⟩
        have s4 := hb4.size
        have K2 := normal_any (some ⟨br, 0, none⟩) (dlen D + 1) (dlen D + 1) fr w4 (hsr.keep hb4) hfr (Nat.le_refl _) (by omega) (by omega)
        rw [er1] at K2
        have HK2 := hide K2
        clear K2
        go_wp2_with fail
        refine (unhide HK2).mono ?_
        rintro e w5 ⟨rc, rfl, hrc, hb5⟩
        go_wp2
        go_ret3
        exact ⟨qc, rc, rfl, (hqc.keep hb5).mono (by omega), hrc.mono (by omega), ((hb1.trans (hbel.mono s1)).trans (hb4.mono (by omega))).trans (hb5.mono (by omega))⟩
      · obtain ⟨i, rfl⟩ : ∃ i, l = i + 1 := ⟨l - 1, by omega⟩
        have hv1 : A / 2 ^ i % 2 ≤ 1 := by omega
        have KB := hide (bit_any a A i wr ((ha.keep hb1).keep hbel).sl (by omega) (by omega))
        have Hr2 : Hid ((2 * val fr (dlen D + 1) + A / 2 ^ i % 2) % 256 ^ (dlen D + 1) = 2 * (A / 2 ^ (i + 1) % D) + A / 2 ^ i % 2) := by
          unfold Hid
          rw [unhide hvr]
          exact rest_fits (Nat.mod_lt _ (unhide HD)) (lt_pow_dlen D) hv1
        have KD := double_any br 0 (dlen D + 1) (dlen D + 1) fr (A / 2 ^ i % 2) wr hr.rr hr.qr hfr hv1 (by omega) (by omega)
        rw [unhide Hr2] at KD
        have HKD := hide KD
        clear KD
        obtain ⟨r2, HR2⟩ : ∃ r2, Hid (2 * (A / 2 ^ (i + 1) % D) + A / 2 ^ i % 2 = r2) := ⟨_, rfl⟩
        rw [unhide HR2] at HKD
        go_wp2_with fail
        refine (unhide KB).mono ?_
        rintro e w' ⟨rfl, rfl⟩
        go_wp2_with fail
        refine (unhide HKD).mono ?_
        rintro e w2 ⟨g, rfl, hg, hgv, hgr, hwr⟩
        have hrs2 : DivRows w1.heap.size (dlen A) (dlen D) w2 bq br bw fq g (dig D) := {
          rq := hr.rq.wr hwr (.inl hr.d1)
          qq := hr.qq.wr hwr hr.l1
          rr := hgr
          qr := hr.qr.wr hwr (hr.rr.block_lt (by omega))
          rw := hr.rw.wr hwr (.inl hr.d3.symm)
          qw := hr.qw.wr hwr (hr.rw.block_lt (by omega))
          d1 := hr.d1
          d2 := hr.d2
          d3 := hr.d3
          o1 := hr.o1
          o2 := hr.o2
          o3 := hr.o3
          l1 := Nat.lt_of_lt_of_le hr.l1 hwr.size }
        have hb2' : Below w1.heap.size w1 w2 := hwr.below hbel hr.o2 sb
        have s2' := hb2'.size
        have KL := less_any br 0 bw 0 (dlen D + 1) (dlen D + 1) (dlen D + 1) g (dig D) w2 hrs2.rr hrs2.rw hg (byt_dig _) (by omega)
        have eD : val (dig D) (dlen D + 1) = D := by rw [val_dig]; exact Nat.mod_eq_of_lt (Nat.lt_of_lt_of_le (lt_pow_dlen D) (pow256_mono (Nat.le_succ _)))
        rw [hgv, eD] at KL
        have HG := hide hgv
        have ED := hide eD
        clear hr hwr hgr HKD KB hgv eD Hr2 hvr
        rcases Nat.lt_or_ge r2 D with hlt | hge
        · rw [decide_eq_true hlt] at KL
          have HKL := hide KL
          obtain ⟨m1, m2⟩ := ds_small (unhide HR2).symm hlt
          have M1 := hide m1
          have M2 := hide m2
          clear KL m1 m2 hlt
          go_wp2_with fail
          refine (unhide HKL).mono ?_
          rintro e w3' ⟨rfl, hb3⟩
          go_wp2
          go_roundg i
          case measure => omega
          case rel => exact ⟨i, fq, g, rfl, by omega, by go_num, hfq, hg, hrs2.keep hb3, by unfold Hid; rw [unhide HG, unhide M1], by unfold Hid; rw [unhide hvq, unhide M2, Nat.pow_succ, Nat.mul_comm 2 (_ / D), Nat.mul_assoc, Nat.mul_comm 2 (2 ^ i)], hb2'.trans (hb3.mono s2')⟩
        · rw [decide_eq_false (by omega)] at KL
          have HKL := hide KL
          obtain ⟨m1, m2⟩ := ds_big (unhide HD) (unhide HR2).symm hge
          have M1 := hide m1
          have M2 := hide m2
          have HGE := hide hge
          clear KL m1 m2 hge
          go_wp2_with fail
          refine (unhide HKL).mono ?_
          rintro e w3' ⟨rfl, hb3⟩
          have s3 := hb3.size
          have hrs4 := hrs2.keep hb3
          have KT := tk_any br 0 bw 0 (dlen D + 1) (dlen D + 1) (dlen D + 1) g (dig D) w3' hrs4.rr hrs4.qr hrs4.rw hrs4.d3.symm hg (byt_dig _) (by rw [unhide HG, unhide ED]; exact unhide HGE) (by omega) (by omega)
          rw [unhide HG, unhide ED] at KT
          have HKT := hide KT
          clear KT
          go_wp2_with fail
          refine (unhide HKT).mono ?_
          rintro e w5 ⟨h, rfl, hh, hhv, hhr, hwr5⟩
          have hb5 : Below w1.heap.size w1 w5 := hwr5.below (hb2'.trans (hb3.mono s2')) hrs4.o2 (by omega)
          have cq := (hrs4.rq.wr hwr5 (.inl hrs4.d1)).cell (i := i / 8) (by omega)
          have fq1 := (hrs4.qq.wr hwr5 hrs4.l1) (i / 8) (by omega)
          have dq := hfq (i / 8)
          obtain ⟨oq1, oq2⟩ := orq dq (Nat.mod_lt i (by decide)) (quot_dig hfq (unhide hvq) (by omega))
          have OQ := hide oq2
          have HV := hide (quot_put (unhide hvq) (by omega : i / 8 < dlen A))
          simp only [Nat.zero_add, oct_at] at cq fq1
          clear oq2
          go_wp2
          go_region
          all_goals
            go_wp2
            go_roundg i
            case measure => omega
            case rel => exact ⟨i, upd fq (i / 8) (fq (i / 8) + 2 ^ (i % 8)), h, rfl, by omega, rfl, hfq.upd _ _ oq1, hh, {
                rq := ((hrs4.rq.wr hwr5 (.inl hrs4.d1)).put (i / 8) _ (by omega) (Nat.zero_add _).symm (unhide OQ)).drew
                qq := ((hrs4.qq.wr hwr5 hrs4.l1).setCell _ _).drew
                rr := (hhr.setOther (.inl hrs4.d1) _).drew
                qr := ((hrs4.qr.wr hwr5 (hrs4.rr.block_lt (by omega))).setCell _ _).drew
                rw := ((hrs4.rw.wr hwr5 (.inl hrs4.d3.symm)).setOther (.inl hrs4.d2) _).drew
                qw := ((hrs4.qw.wr hwr5 (hrs4.rw.block_lt (by omega))).setCell _ _).drew
                d1 := hrs4.d1
                d2 := hrs4.d2
                d3 := hrs4.d3
                o1 := hrs4.o1
                o2 := hrs4.o2
                o3 := hrs4.o3
                l1 := by simpa using Nat.lt_of_lt_of_le hrs4.l1 hwr5.size }, by unfold Hid; rw [hhv, unhide M1], by unfold Hid; rw [unhide HV, unhide M2], (hb5.setCell hrs4.o1 _).drew⟩
end Go.Proofs.Ygctai
