/-
  mlong: convolve.
-/
import Derived.Test.YgctaiMD
namespace Go.Proofs.Ygctai
open Go.RowKit
set_option linter.unusedVariables false
attribute [local go_sem ↓] Go.wp_at_zero Go.wp_at_succ

theorem row_layl {w w' : World} {b off N s h : Nat} {Z Y : Nat → Nat} (hr : Row w b off N (lng Z)) (h1 : Row w' b (off + s) h (lng Y)) (hw : Wr b (off + s) (off + s + h) w w') : Row w' b off N (lng (lay Z s h Y)) := fun i hi' => by
  unfold lng lay
  split
  · rw [hw.cell _ (by omega)]; exact hr i hi'
  · split
    · have := h1 (i - s) (by omega)
      rw [show off + s + (i - s) = off + i by omega] at this
      exact this
    · rw [hw.cell _ (by omega)]; exact hr i hi'
theorem lay_add (C Y : Nat → Nat) (s n t : Nat) : lay C s n (fun j => C (s + j) + Y j) t = C t + layAt Y s n t := by
  unfold lay layAt
  split
  · rfl
  · split
    · show C (s + (t - s)) + Y (t - s) = _
      rw [show s + (t - s) = t by omega]
    · rfl

/-- Two rows made. -/
def mk2 (w : World) (z1 : Value) (n1 e1 : Nat) (z2 : Value) (n2 e2 : Nat) : World := ((w.alloc (made z1 n1 e1)).alloc (made z2 n2 e2)).drew
theorem mk2a (w : World) (z1 : Value) (n1 e1 : Nat) (z2 : Value) (n2 e2 : Nat) : Row (mk2 w z1 n1 e1 z2 n2 e2) w.heap.size 0 n1 (fun _ => z1) := (row_made w z1 n1 e1).alloc _
theorem mk2b (w : World) (z1 : Value) (n1 e1 : Nat) (z2 : Value) (n2 e2 : Nat) : Row (mk2 w z1 n1 e1 z2 n2 e2) (w.heap.size + 1) 0 n2 (fun _ => z2) := by
  have := row_made (w.alloc (made z1 n1 e1)) z2 n2 e2
  simp only [World.size_alloc] at this
  exact this
theorem mk2fa (w : World) (z1 : Value) (n1 e1 : Nat) (z2 : Value) (n2 e2 : Nat) : Free (mk2 w z1 n1 e1 z2 n2 e2) w.heap.size 0 n1 :=
  ((free_made w z1 n1 e1).below (below_alloc (w.alloc (made z1 n1 e1)) (made z2 n2 e2)) (by simp)).drew
theorem mk2fb (w : World) (z1 : Value) (n1 e1 : Nat) (z2 : Value) (n2 e2 : Nat) : Free (mk2 w z1 n1 e1 z2 n2 e2) (w.heap.size + 1) 0 n2 := by
  have := free_made (w.alloc (made z1 n1 e1)) z2 n2 e2
  simp only [World.size_alloc] at this
  exact this.drew
theorem mk2_below (w : World) (z1 : Value) (n1 e1 : Nat) (z2 : Value) (n2 e2 : Nat) : Below w.heap.size w (mk2 w z1 n1 e1 z2 n2 e2) := ((below_alloc w (made z1 n1 e1)).alloc (by simp) (made z2 n2 e2)).drew

/-- convolve's three rows. -/
structure CvRows (B Lc N : Nat) (w : World) (d bs bb : Nat) (C S Bk : Nat → Nat) : Prop where
  rc : Row w d 0 Lc (lng C)
  fc : Free w d 0 Lc
  rs : Row w bs 0 N (qwd S)
  fs : Free w bs 0 N
  rb : Row w bb 0 N (wrd Bk)
  fb : Free w bb 0 N
  d1 : bb ≠ d
  d2 : bs ≠ bb
  d3 : bs ≠ d
  o1 : B ≤ d
  o2 : B ≤ bs
  o3 : B ≤ bb

theorem idx_split {N p n : Nat} (hN : 0 < N) (h : p < N * n) : p / N < n ∧ p % N < N ∧ p / N * N + p % N = p := by
  refine ⟨by rw [Nat.div_lt_iff_lt_mul hN, Nat.mul_comm]; exact h, Nat.mod_lt _ hN, ?_⟩
  rw [Nat.mul_comm]; exact Nat.div_add_mod p N

set_option maxRecDepth 100000 in
set_option maxHeartbeats 1000000 in
theorem convolve_core (d1 d2 L1 L2 Lc s k N nx ny la lb : Nat) (X Y f g : Nat → Nat) (w : World) (hk : k ≤ 10) (hk1 : 1 ≤ k) (hN : Hid (N = 2 ^ k)) (hN2 : 2 * s = N) (hs2 : s ≤ 512) (hf : Byt f) (hg : Byt g) (hL1 : Hid (L1 = N * nx)) (hL2 : Hid (L2 = N * ny)) (hLc : Hid (Lc = (nx + ny) * s)) (hl1 : L1 ≤ 20000) (hl2 : L2 ≤ 20000) (hlc : Lc ≤ 20000)
    (hx0 : 0 < nx) (hy0 : 0 < ny) (hny : ny ≤ 16) (hnx : nx ≤ 32) (hla : Hid (la ≤ nx * s)) (hlb : Hid (lb ≤ ny * s)) (hrx : Row w d1 0 L1 (wrd X)) (hry : Row w d2 0 L2 (wrd Y))
    (hX : ∀ c j, c < nx → j < N → X (c * N + j) < 998244353 ∧ Eqm (X (c * N + j)) (FM (rtk k) (bk f la s c) N j)) (hY : ∀ c j, c < ny → j < N → Y (c * N + j) < 998244353 ∧ Eqm (Y (c * N + j)) (FM (rtk k) (bk g lb s c) N j)) :
    Calls Taig.prog 107 #[.slice (some ⟨d1, 0, none⟩) L1 L1, .slice (some ⟨d2, 0, none⟩) L2 L2, .int .i64 s] w fun e w' => ∃ d C, e = .returned (.slice (some ⟨d, 0, none⟩) Lc Lc) ∧ Row w' d 0 Lc (lng C) ∧ (∀ i, i < Lc → C i < 36028797018963968) ∧ csv C Lc = val f la * val g lb ∧ Below w.heap.size w w' := by
  have HX := hide hX
  have HY := hide hY
  have HF := hide hf
  have HG := hide hg
  clear hX hY hf hg
  have hN0 : 0 < N := by rw [unhide hN]; exact Nat.two_pow_pos k
  have hL10 : 0 < L1 := by rw [unhide hL1]; exact Nat.mul_pos hN0 hx0
  have hL20 : 0 < L2 := by rw [unhide hL2]; exact Nat.mul_pos hN0 hy0
  have hbl1 := hrx.block_lt hL10
  have hbl2 := hry.block_lt hL20
  have HXL : Hid (∀ p, p < L1 → X p < 998244353) := fun p hp => by
    obtain ⟨z1, z2, z3⟩ := idx_split hN0 (by rw [← unhide hL1]; exact hp)
    have := (unhide HX _ _ z1 z2).1
    rwa [z3] at this
  have HYL : Hid (∀ p, p < L2 → Y p < 998244353) := fun p hp => by
    obtain ⟨z1, z2, z3⟩ := idx_split hN0 (by rw [← unhide hL2]; exact hp)
    have := (unhide HY _ _ z1 z2).1
    rwa [z3] at this
  have hNI : 2 * (s : Int) = (N : Int) := by omega
  have e1 : (L1 : Int) / (N : Int) = (nx : Int) := by
    rw [unhide hL1]
    rw [show ((N * nx : Nat) : Int) / (N : Int) = ((N * nx / N : Nat) : Int) from rfl, Nat.mul_div_cancel_left _ hN0]
  have e2 : (L2 : Int) / (N : Int) = (ny : Int) := by
    rw [unhide hL2]
    rw [show ((N * ny : Nat) : Int) / (N : Int) = ((N * ny / N : Nat) : Int) from rfl, Nat.mul_div_cancel_left _ hN0]
  have hmk1 := make96 Lc (by omega)
  have hmk2 := make140 N (by omega)
  have hmk3 := make115 N (by omega)
  have e3 : wrap64 (((nx : Int) + (ny : Int)) * (s : Int)) = (Lc : Int) := by
    have : ((nx : Int) + (ny : Int)) * (s : Int) = (Lc : Int) := by rw [unhide hLc]; simp
    rw [this]; unfold wrap64; omega
  go_enter Taig.func107, Taig.ntmps107
  go_wp2
  go_quiet (fail)
  go_wp2
  clear e1 e2 e3 hmk1
  have q1 : Row ((w.drewN nq).alloc (made (Value.int IntKind.i64 0) Lc 2)) w.heap.size 0 Lc (lng fun _ => 0) := row_made (w.drewN nq) _ _ _
  have q2 : Free ((w.drewN nq).alloc (made (Value.int IntKind.i64 0) Lc 2)) w.heap.size 0 Lc := free_made (w.drewN nq) _ _ _
  have q3 : Below w.heap.size w ((w.drewN nq).alloc (made (Value.int IntKind.i64 0) Lc 2)) := (belowN (Below.refl _ w) nq).alloc (Nat.le_refl _) _
  generalize (w.drewN nq).alloc (made (Value.int IntKind.i64 0) Lc 2) = w1 at *
  have hLc0 : 0 < Lc := by rw [unhide hLc]; exact Nat.mul_pos (by omega) (by omega)
  have q4 := q1.block_lt hLc0
  have q5 := q3.size
  go_cut [11, 12] (fun sv bv wc => ∃ bs bb, sv = .slice (some ⟨bs, 0, none⟩) N N ∧ bv = .slice (some ⟨bb, 0, none⟩) N N ∧ CvRows w.heap.size Lc N wc w.heap.size bs bb (fun _ => 0) (fun _ => 0) (fun _ => 0) ∧ Below w.heap.size w wc)
  case first =>
    go_region
    all_goals
      go_wp2
      go_meet
      case rel =>
        first
          | exact ⟨_, _, rfl, rfl, ⟨q1.keep (mk2_below w1 (.int .u64 0) N 32 (.int .u32 0) N 133), q2.below (mk2_below w1 (.int .u64 0) N 32 (.int .u32 0) N 133) q4, mk2a w1 _ _ _ _ _ _, mk2fa w1 _ _ _ _ _ _, mk2b w1 _ _ _ _ _ _, mk2fb w1 _ _ _ _ _ _, by omega, by omega, by omega, by omega, by omega, by omega⟩, q3.trans ((mk2_below w1 (.int .u64 0) N 32 (.int .u32 0) N 133).mono q5)⟩
          | exact ⟨_, _, rfl, rfl, ⟨q1.keep (mk2_below w1 (.int .u32 0) N 133 (.int .u64 0) N 32), q2.below (mk2_below w1 (.int .u32 0) N 133 (.int .u64 0) N 32) q4, mk2b w1 _ _ _ _ _ _, mk2fb w1 _ _ _ _ _ _, mk2a w1 _ _ _ _ _ _, mk2fa w1 _ _ _ _ _ _, by omega, by omega, by omega, by omega, by omega, by omega⟩, q3.trans ((mk2_below w1 (.int .u32 0) N 133 (.int .u64 0) N 32).mono q5)⟩
  case rest =>
    clear q1 q2 q3 q4 q5 hmk2 hmk3
    obtain ⟨bs, bb, rfl, rfl, hcv, hbe⟩ := hcut
    obtain ⟨d, hd⟩ : ∃ d, d = w.heap.size := ⟨_, rfl⟩
    rw [← hd] at hcv ⊢
    have HD := hide hd
    have hbl1' : d1 < d := by omega
    have hbl2' : d2 < d := by omega
    clear hd
    obtain ⟨F, HFF⟩ : ∃ F : Nat → Nat, Hid (F = fun m => 256 ^ (m * s) * lc (bv f la s) (bv g lb s) m) := ⟨_, hide rfl⟩
    go_wp2
    go_loopg [13] (nx + ny - 1) (fun gm mv wr => ∃ (m : Nat) (C S Bk : Nat → Nat), gm = nx + ny - 1 - m ∧ m ≤ nx + ny - 1 ∧ mv = .int .i64 m ∧ Hid (csv C Lc = nsum F m) ∧ Hid (∀ i, i < Lc → C i ≤ m * 998244353) ∧ CvRows d Lc N wr d bs bb C S Bk ∧ Below d w wr)
    case atStart => exact ⟨0, fun _ => 0, fun _ => 0, fun _ => 0, rfl, Nat.zero_le _, rfl, nsum_zero _ (fun i _ => Nat.zero_mul _), fun i _ => Nat.zero_le _, hcv, by rw [unhide HD]; exact hbe⟩
    case round =>
      clear hcv hbe
      obtain ⟨m, C, S, Bk, rfl, hm, rfl, hcs, hcb, hcv, hbe⟩ := hrel
      by_cases hlt : m < nx + ny - 1
      · obtain ⟨lo, hlo⟩ : ∃ lo, Hid (lo = m + 1 - ny) := ⟨m + 1 - ny, hide rfl⟩
        obtain ⟨hi, hhi⟩ : ∃ hi, Hid (hi = min nx (m + 1)) := ⟨min nx (m + 1), hide rfl⟩
        have hlh : lo < hi := by rw [unhide hlo, unhide hhi]; omega
        have hlm : lo ≤ m := by have := unhide hlo; omega
        have hhm : hi ≤ m + 1 := by have := unhide hhi; omega
        have hhn : hi ≤ nx := by have := unhide hhi; omega
        have hhl : hi - lo ≤ 16 := by have := unhide hlo; have := unhide hhi; omega
        have bM : decide ((m : Int) < (nx : Int) + (ny : Int) - 1) = true := decide_eq_true (by omega)
        go_upto_if 49 with fail
        go_cut [14] (fun lv wc => lv = .int .i64 lo ∧ wr = wc)
        case first =>
          by_cases h1 : ny ≤ m
          · go_wp2
            go_meet
            case rel => exact ⟨int_eq (by have := unhide hlo; omega), rfl⟩
          · go_wp2
            go_meet
            case rel => exact ⟨int_eq (by have := unhide hlo; omega), rfl⟩
        case rest =>
          obtain ⟨rfl, rfl⟩ := hcut
          go_upto_if 57 with fail
          go_cut [15] (fun hv wc => hv = .int .i64 hi ∧ wr = wc)
          case first =>
            by_cases h1 : m + 1 < nx
            · go_wp2
              go_meet
              case rel => exact ⟨int_eq (by have := unhide hhi; omega), rfl⟩
            · go_wp2
              go_meet
              case rel => exact ⟨int_eq (by have := unhide hhi; omega), rfl⟩
          case rest =>
            obtain ⟨rfl, rfl⟩ := hcut
            obtain ⟨ms, hms⟩ : ∃ ms, Hid (ms = m * s) := ⟨m * s, hide rfl⟩
            have hmsL : ms + N ≤ Lc := by
              have h3 : (m + 2) * s ≤ (nx + ny) * s := Nat.mul_le_mul_right _ (by omega)
              rw [Nat.add_mul, ← unhide hms, ← unhide hLc, hN2] at h3
              exact h3
            go_wp2
            go_loopg [16] 1 (fun gi iv wr => ∃ (q : Nat) (C S Bk : Nat → Nat), gi = 1 - q ∧ q ≤ 1 ∧ iv = .int .i64 ((lo + 29 * q : Nat) : Int) ∧ Hid (csv C Lc = nsum F (m + q)) ∧ Hid (∀ i, i < Lc → C i ≤ (m + q) * 998244353) ∧ CvRows d Lc N wr d bs bb C S Bk ∧ Below d w wr)
            case atStart => exact ⟨0, C, S, Bk, rfl, by omega, rfl, hcs, hcb, hcv, hbe⟩
            case round =>
              clear hcs hcb hcv hbe
              obtain ⟨q, C, S, Bk, rfl, hq, rfl, hcs, hcb, hcv, hbe⟩ := hrel
              by_cases hq1 : q < 1
              · obtain rfl : q = 0 := by omega
                rw [Nat.add_zero] at hcs
                have hsz : d ≤ wr.heap.size := by have := hbe.size; have := hcv.rc.block_lt (by omega); omega
                have rx : Row wr d1 0 L1 (wrd X) := hrx.below hbe hbl1'
                have ry : Row wr d2 0 L2 (wrd Y) := hry.below hbe hbl2'
                have o2 := hcv.o2
                have o3 := hcv.o3
                have KP := hide (products_core bs d1 d2 N L1 L2 lo hi m S X Y wr hcv.rs hcv.fs rx ry (by omega) (by omega) hlh hhl hhm (by omega) hN0 (by omega) (by rw [unhide hL1, Nat.mul_comm N]; exact Nat.mul_le_mul_right _ hhn) (by rw [unhide hL2, Nat.mul_comm N]; exact Nat.mul_le_mul_right _ (by have := unhide hlo; omega)) hl1 hl2 (unhide HXL) (unhide HYL))
                clear rx ry
                go_upto_if 70 with fail
                go_cut [17] (fun hv wc => hv = .int .i64 hi ∧ wr = wc)
                case first =>
                  go_wp2
                  go_meet
                  case rel => exact ⟨rfl, rfl⟩
                case rest =>
                  obtain ⟨rfl, rfl⟩ := hcut
                  go_wp2_with fail
                  refine (unhide KP).mono ?_
                  rintro e w2 ⟨S2, rfl, hS2, hrs2, hw2⟩
                  have HS2 := hide hS2
                  clear hS2
                  have hrc2 := hcv.rc.wr hw2 (.inl (Ne.symm hcv.d3))
                  have hfc2 := hcv.fc.wr hw2 (hcv.rc.block_lt (by omega))
                  have hrb2 := hcv.rb.wr hw2 (.inl (Ne.symm hcv.d2))
                  have hfb2 := hcv.fb.wr hw2 (hcv.rb.block_lt hN0)
                  have hfs2 := hcv.fs.wr hw2 (hcv.rs.block_lt hN0)
                  have hrc3 := hrc2.shift (k := ms) (m := N) (by omega)
                  have hfc3 := hfc2.shift (k := ms) (m := N) (by omega)
                  rw [Nat.zero_add] at hrc3 hfc3
                  have KA := hide (addBack_core d ms bb bs k N s (fun j => C (ms + j)) Bk S2 w2 hk hk1 hN hN2 (by omega) hrc3 hfc3 hrb2 hfb2 hrs2 hcv.d1 hcv.d2 (fun j hj => (unhide HS2 j hj).1) (fun j hj => by have := unhide hcb (ms + j) (by omega); omega))
                  have e3 : IntKind.i64.wrap ((m : Int) * (s : Int)) = (ms : Int) := by
                    have : (m : Int) * (s : Int) = (ms : Int) := by rw [unhide hms]; simp
                    rw [this, IntKind.wrap_i64]; omega
                  go_wp2_with fail
                  refine (unhide KA).mono ?_
                  rintro e w3 ⟨Y2, rfl, hY2, hrc4, ⟨B1, hrb4⟩, w2', hwA, hwB⟩
                  clear e3
                  have HYE : Hid (∀ j, j < N → Y2 j = dm f g la lb s N lo (hi - lo) m j) := fun j hj => back_dm (unhide HF) (unhide HG) hk (unhide hN) hN2.symm hs2 (by omega) (fun j hj => (unhide HS2 j hj).2.trans (nsum_eqm _ fun t ht => by
                    unfold prs
                    have z1 := (unhide HX (lo + t) j (by omega) hj).2
                    have z2 := (unhide HY (m - (lo + t)) j (by have := unhide hlo; omega) hj).2
                    exact z1.mul z2)) hY2 j hj
                  have HYB : Hid (∀ j, j < N → Y2 j < 998244353) := fun j hj => (hY2 j hj).1
                  have HCS : Hid (csv (lay C ms N fun j => C (ms + j) + Y2 j) Lc = nsum F (m + 1)) := by
                    unfold Hid
                    rw [csv_congr Lc (fun t _ => lay_add C Y2 ms N t), csv_add, csv_lay Y2 ms N Lc hmsL, unhide hcs, nsum, csv_congr N (unhide HYE), dm_csv f g hk (unhide hN) hN2.symm, dm_lc (unhide hla) (unhide hlb) (unhide hlo) (unhide hhi) (by omega), unhide HFF, unhide hms]
                  have HCB : Hid (∀ i, i < Lc → lay C ms N (fun j => C (ms + j) + Y2 j) i ≤ (m + 1) * 998244353) := fun i hi => by
                    rw [lay_add]
                    have z1 := unhide hcb i hi
                    have z2 : layAt Y2 ms N i < 998244353 := by
                      unfold layAt
                      split
                      · decide
                      · split
                        · exact unhide HYB _ (by omega)
                        · decide
                    omega
                  clear hY2
                  have hlc3 := hrc2.block_lt (by omega)
                  have hrc5 : Row w2' d 0 Lc (lng C) := hrc2.wr hwA (.inl (Ne.symm hcv.d1))
                  have hcv2 : CvRows d Lc N w3 d bs bb (lay C ms N fun j => C (ms + j) + Y2 j) S2 B1 := {
                    rc := row_layl hrc5 (by rw [Nat.zero_add]; exact hrc4) (by rw [Nat.zero_add]; exact hwB)
                    fc := (hfc2.wr hwA hlc3).wr hwB (hrc5.block_lt (by omega))
                    rs := (hrs2.wr hwA (.inl hcv.d2)).wr hwB (.inl hcv.d3)
                    fs := (hfs2.wr hwA (hrs2.block_lt hN0)).wr hwB ((hrs2.wr hwA (.inl hcv.d2)).block_lt hN0)
                    rb := hrb4
                    fb := (hfb2.wr hwA (hrb2.block_lt hN0)).wr hwB (Nat.lt_of_lt_of_le (hrb2.block_lt hN0) hwA.size)
                    d1 := hcv.d1
                    d2 := hcv.d2
                    d3 := hcv.d3
                    o1 := hcv.o1
                    o2 := hcv.o2
                    o3 := hcv.o3 }
                  have hsz2 : d ≤ w2.heap.size := Nat.le_trans hsz hw2.size
                  have hbe2 : Below d w w3 := hwB.below (hwA.below (hw2.below hbe o2 hsz) o3 hsz2) (Nat.le_refl _) (Nat.le_trans hsz2 hwA.size)
                  clear hrc2 hfc2 hrb2 hfb2 hfs2 hrc3 hfc3 hrc4 hrb4 hrc5
                  go_wp2
                  go_roundg (1 - (0 + 1))
                  case measure => omega
                  case rel => exact ⟨1, _, _, _, rfl, Nat.le_refl _, by go_num, HCS, HCB, hcv2, hbe2⟩
              · obtain rfl : q = 1 := by omega
                go_wp2
                go_roundg (nx + ny - 1 - (m + 1))
                case measure => omega
                case rel => exact ⟨m + 1, C, S, Bk, rfl, by omega, by go_num, hcs, hcb, hcv, hbe⟩
      · obtain rfl : m = nx + ny - 1 := by omega
        go_wp2
        go_ret
        exact ⟨d, C, rfl, hcv.rc, fun i hi => Nat.lt_of_le_of_lt (unhide hcb i hi) (by omega), by rw [unhide hcs, unhide HFF, mul_blocks (unhide hla) (unhide hlb)], by rw [← unhide HD]; exact hbe⟩
end Go.Proofs.Ygctai
