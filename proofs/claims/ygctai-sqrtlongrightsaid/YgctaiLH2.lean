/-
  nlong.extend.
-/
import Derived.Test.YgctaiLG2
namespace Go.Proofs.Ygctai
open Go.RowKit
set_option linter.unusedVariables false

/-! ### plain -/
theorem ext_start {S R K a1 a0 q u : Nat} (hq : a1 + K * R = q * (S + S) + u) : (S * K + q) * (S * K + q) + (a0 + K * u) = ((S * S + R) * K + a1) * K + a0 + q * q := by
  have e1 : (S * K + q) * (S * K + q) = S * S * K * K + q * (S + S) * K + q * q := by
    rw [Nat.add_mul, Nat.mul_add, Nat.mul_add, Nat.mul_add q S S, Nat.add_mul]
    have z1 : S * K * (S * K) = S * S * K * K := by ac_rfl
    have z2 : S * K * q = q * S * K := by ac_rfl
    have z3 : q * (S * K) = q * S * K := by ac_rfl
    omega
  have e2 : ((S * S + R) * K + a1) * K = S * S * K * K + (a1 + K * R) * K := by
    rw [Nat.add_mul, Nat.add_mul, Nat.add_mul, Nat.add_mul]
    have : R * K * K = K * R * K := by ac_rfl
    omega
  rw [e1, e2, hq, Nat.add_mul]
  have : u * K = K * u := Nat.mul_comm _ _
  omega
/-- While the root is put right. -/
structure Rt (A Q root left : Nat) : Prop where
  sum : root * root + left = A + Q
  le : left ≤ Q + 2 * root
theorem Rt.pos {A Q root left : Nat} (h : Rt A Q root left) (hl : left < Q) : 0 < root := by
  rcases Nat.eq_zero_or_pos root with e | e
  · have := h.sum; rw [e] at this; omega
  · exact e
theorem Rt.step {A Q root left : Nat} (h : Rt A Q root left) (hl : left < Q) : Rt A Q (root - 1) (left + (root + root) - 1) := by
  have hp := h.pos hl
  obtain ⟨r, rfl⟩ : ∃ r, root = r + 1 := ⟨root - 1, by omega⟩
  have h1 := h.sum
  rw [Nat.add_mul, Nat.mul_add, Nat.one_mul, Nat.mul_one] at h1
  rw [Nat.add_sub_cancel]
  exact ⟨by omega, by omega⟩
theorem Rt.done {A Q root left : Nat} (h : Rt A Q root left) (hl : Q ≤ left) : root * root + (left - Q) = A ∧ left - Q ≤ 2 * root := by
  have := h.sum; have := h.le
  exact ⟨by omega, by omega⟩
theorem Rt.le_len {A Q root left : Nat} (h : Rt A Q root left) : root ≤ A + Q := by
  have h1 := h.sum
  have h2 : root ≤ root * root := by
    rcases Nat.eq_zero_or_pos root with e | e
    · rw [e]; exact Nat.zero_le _
    · exact Nat.le_mul_of_pos_left _ e
  omega

theorem dlen_add_le' {x y m : Nat} (h1 : dlen x ≤ m) (h2 : dlen y ≤ m) : dlen (x + y) ≤ m + 1 := by
  rw [dlen_le_iff] at *
  rw [Nat.pow_succ]
  generalize 256 ^ m = z at *
  omega
theorem a_split (A k : Nat) : (A / 256 ^ (2 * k) * 256 ^ k + A / 256 ^ k % 256 ^ k) * 256 ^ k + A % 256 ^ k = A := by
  have h1 : A / 256 ^ (2 * k) = A / 256 ^ k / 256 ^ k := by rw [Nat.div_div_eq_div_mul, ← Nat.pow_add, Nat.two_mul]
  have h2 := Nat.div_add_mod (A / 256 ^ k) (256 ^ k)
  have h3 := Nat.div_add_mod A (256 ^ k)
  rw [h1, Nat.mul_comm (A / 256 ^ k / 256 ^ k), h2, Nat.mul_comm (A / 256 ^ k)]
  exact h3
/-- Digits and a natural above them, laid into a row of one's own. -/
theorem prep2 (w : World) (ba so d L cap A R lo : Nat) (rc : Option Addr) (hsrc : Row w ba so d (oct fun i => dig A (lo + i))) (hrc : Nt w 0 rc R) (hL : L = d + dlen R) (hd : 0 < d) :
    ∃ w3 w4 ad, (Builtin.copy_ #[23, 23] 3 #[.slice (some ⟨w.heap.size, 0, none⟩) L L, .slice (some ⟨ba, so, none⟩) d cap]).run Taig.prog (w.alloc (made (.int .u8 0) L 5)) = .ok (.int .i64 (d : Nat)) w3 ∧
      (Builtin.copy_ #[23, 23] 3 #[.slice (some ⟨w.heap.size, ad, none⟩) (L - d) (L - d), .slice rc (dlen R) (dlen R)]).run Taig.prog w3 = .ok (.int .i64 (dlen R : Nat)) w4 ∧ Hid ((d = L ∧ ad = 0) ∨ (d < L ∧ ad = d)) ∧ Row w4 w.heap.size 0 L (oct (prt A R lo d)) ∧ Free w4 w.heap.size 0 L ∧ Below w.heap.size w w4 := by
  have hdL : d ≤ L := by omega
  have pr0 := row_made w (.int .u8 0) L 5
  have pf0 := free_made w (.int .u8 0) L 5
  have pb0 := below_alloc w (made (.int .u8 0) L 5)
  have psz : (w.alloc (made (.int .u8 0) L 5)).heap.size = w.heap.size + 1 := by simp
  obtain ⟨w3, run3, wr3, row3⟩ := copy_oct 23 23 3 Taig.underlying23 (w.alloc (made (.int .u8 0) L 5)) w.heap.size 0 L L (some ⟨ba, so, none⟩) d cap (fun i => dig A (lo + i)) (fun _ => 0) pr0 pf0 (fun _ => ⟨_, _, rfl, hsrc.keep pb0⟩)
  rw [Nat.min_eq_left hdL] at run3 wr3 row3
  have f3 := pf0.wr wr3 (by omega)
  have b3 : Below w.heap.size w w3 := wr3.below pb0 (Nat.le_refl _) (by omega)
  have srcR : Sl w3 rc (dlen R) (dig R) := (hrc.keep b3).sl
  rcases Nat.eq_or_lt_of_le hdL with e | e
  · obtain ⟨w4, run4, wr4, row4⟩ := copy_oct 23 23 3 Taig.underlying23 w3 w.heap.size 0 (L - d) (L - d) rc (dlen R) (dlen R) (dig R) (fun i => dig A (lo + i)) (row3.sub (by omega) |>.congr fun i hi => absurd hi (by omega)) (f3.sub (by omega)) srcR
    have eR : dlen R = 0 := by omega
    rw [show min (dlen R) (L - d) = 0 by omega] at run4 wr4
    refine ⟨w3, w4, 0, run3, by rw [eR] at run4 ⊢; exact run4, .inl ⟨e, rfl⟩, ?_, f3.wr wr4 (row3.block_lt (by omega)), wr4.below b3 (Nat.le_refl _) b3.size⟩
    have r5 : Row w4 w.heap.size 0 L (oct fun i => if i < d then dig A (lo + i) else 0) := fun i hi => by
      rw [wr4.cell _ (by omega)]; exact row3 i hi
    exact r5.congr fun i hi => by rw [oct_at, oct_at]; unfold prt; rw [if_pos (by omega), if_pos (by omega)]
  · have r3s := row3.shift (k := d) (m := L - d) (by omega)
    rw [Nat.zero_add] at r3s
    have f3s := f3.shift (k := d) (m := L - d) (by omega)
    rw [Nat.zero_add] at f3s
    obtain ⟨w4, run4, wr4, row4⟩ := copy_oct 23 23 3 Taig.underlying23 w3 w.heap.size d (L - d) (L - d) rc (dlen R) (dlen R) (dig R) (fun i => if d + i < d then dig A (lo + (d + i)) else 0) r3s f3s srcR
    have eR : L - d = dlen R := by omega
    rw [show min (dlen R) (L - d) = dlen R by omega] at run4 wr4 row4
    refine ⟨w3, w4, d, run3, run4, .inr ⟨e, rfl⟩, ?_, f3.wr wr4 (row3.block_lt (by omega)), wr4.below b3 (Nat.le_refl _) b3.size⟩
    intro i hi
    rw [oct_at]
    unfold prt
    by_cases c : i < d
    · rw [if_pos c, wr4.cell _ (by omega)]
      have := row3 i (by omega)
      rw [oct_at, if_pos c] at this
      exact this
    · rw [if_neg c]
      have := row4 (i - d) (by omega)
      rw [show d + (i - d) = 0 + i by omega, oct_at, if_pos (by omega)] at this
      exact this

set_option maxRecDepth 100000 in
set_option maxHeartbeats 1000000 in
theorem extend_any (sa ra aa : Option Addr) (S R A k : Nat) (w : World) (hs : Nt w 0 sa S) (hr : Nt w 0 ra R) (ha : Nt w 0 aa A) (hS : 0 < S) (hSR : S * S + R = A / 256 ^ (2 * k)) (hR : R ≤ 2 * S) (hk : 0 < k) (hkA : 2 * k ≤ dlen A) (lA : dlen A ≤ 4200) :
    Calls Taig.prog 78 #[.slice sa (dlen S) (dlen S), .slice ra (dlen R) (dlen R), .slice aa (dlen A) (dlen A), .int .i64 k] w fun e w' => ∃ c d S' R', e = .returned (.tuple #[.slice c (dlen S') (dlen S'), .slice d (dlen R') (dlen R')]) ∧ S' * S' + R' = A ∧ R' ≤ 2 * S' ∧ Nt w' w.heap.size c S' ∧ Nt w' w.heap.size d R' ∧ Below w.heap.size w w' := by
  obtain ⟨ba, oa, rfl, _, rA, fA⟩ := ha.2 (by
    rcases Nat.eq_zero_or_pos A with e | e
    · rw [e, dlen_zero] at hkA; omega
    · exact e)
  have lS : dlen S ≤ 4200 := by
    refine Nat.le_trans (dlen_mono ?_) lA
    have h1 : S * 1 ≤ S * S := Nat.mul_le_mul_left _ hS
    have h2 : A / 256 ^ (2 * k) ≤ A := Nat.div_le_self _ _
    omega
  have lR : dlen R ≤ 4200 := by
    refine Nat.le_trans (dlen_mono ?_) lA
    have h2 : A / 256 ^ (2 * k) ≤ A := Nat.div_le_self _ _
    omega
  obtain ⟨L, hL⟩ : ∃ L, Hid (L = k + dlen R) := ⟨_, hide rfl⟩
  have hL1 : L ≤ 8400 := by have := unhide hL; omega
  have hmk : ∀ w, (Instr.makeSlice 23 (.int .i64 ((k : Int) + (dlen R : Int))) (.int .i64 ((k : Int) + (dlen R : Int)))).run Taig.prog w = .ok (.slice (some ⟨w.heap.size, 0, none⟩) L L) (w.alloc (made (.int .u8 0) L 5)) := by rw [unhide hL]; exact fun w => make23 (k + dlen R) (by omega) w
  obtain ⟨w3, w4, ad, run3, run4, had, rowP, freP, belP⟩ := prep2 w ba (oa + k) k L (dlen A - k) A R k ra (rA.shift (by omega)) hr (unhide hL) hk
  have HS := hide hS
  have HSR := hide hSR
  have HR := hide hR
  clear hS hSR hR
  -- the quotient and what is left
  have ntS2 : dlen (S + S) ≤ 4201 := dlen_add_le' lS lS
  have KA := add_any sa sa _ (dlen S) _ (dlen S) _ _ w4 (hs.keep belP).sl (hs.keep belP).sl (byt_dig _) (byt_dig _) (Nat.le_refl _) (Nat.le_refl _) (by omega) (by omega) (by omega) (by omega)
  rw [val_dig_dlen] at KA
  have HKA := hide KA
  clear KA
  obtain ⟨T, hT⟩ : ∃ T, Hid (val (prt A R k k) L = T) := ⟨_, rfl⟩
  have hT2 : Hid (T = A / 256 ^ k % 256 ^ k + 256 ^ k * R) := by unfold Hid; rw [← unhide hT]; exact prt_val A R k k L (unhide hL)
  have ntT := nt_of_row (prt_byt A R k k) (Nat.zero_le 0 |> fun _ => Nat.le_refl w.heap.size) rowP freP
  rw [unhide hT] at ntT
  have lT : dlen T ≤ 4300 := by
    rw [← unhide hT]
    refine Nat.le_trans (dlen_val_le (prt_byt _ _ _ _) L) ?_
    have h1 : dlen R ≤ dlen A - 2 * k := by
      have h2 := dlen_mono (show R ≤ A / 256 ^ (2 * k) by have := unhide HSR; omega)
      rwa [dlen_div] at h2
    have := unhide hL; omega
  have e2k : 2 * k - k = k := by omega
  have hs4 := hs.keep belP
  have rA4 := rA.keep belP
  have s4 := belP.size
  clear hs hr ha rA fA
  rcases unhide had with ⟨h1, h2⟩ | ⟨h1, h2⟩
  all_goals
    first
      | (subst h2
         subst h1
         rw [Nat.sub_self] at run4)
      | (have h3 := h2.symm
         subst h3
         clear h2)
    go_enter Taig.func78, Taig.ntmps78
    go_wp2_with fail
    refine (unhide HKA).mono ?_
    rintro e w5 ⟨c5, rfl, n5, b5'⟩
    clear run3 run4 hmk HKA
    have b5 := belP.trans (b5'.mono s4)
    have s5 := b5.size
    have rowP5 := rowP.keep b5'
    have KD := hide (nlDiv_good (some ⟨w.heap.size, 0, none⟩) c5 _ _ (dlen (S + S)) (dlen (S + S)) (prt A R k k) (dig (S + S)) T (S + S) w5 (fun _ => ⟨_, _, rfl, rowP5⟩) (prt_byt _ _ _ _) (Nat.le_refl _) (by omega) n5.sl (byt_dig _) (Nat.le_refl _) (by omega) (unhide hT) (val_dig_dlen _) ((ntT.keep b5').mono (Nat.zero_le _)) (by rw [n5.nz]; exact n5.mono (Nat.zero_le _)) (by have := unhide HS; omega) lT (by omega))
    have hqu : Hid (T = T / (S + S) * (S + S) + T % (S + S)) := by unfold Hid; have := Nat.div_add_mod T (S + S); rw [Nat.mul_comm] at this; exact this.symm
    have hu : Hid (T % (S + S) < S + S) := Nat.mod_lt _ (by have := unhide HS; omega)
    have lq : dlen (T / (S + S)) ≤ 4300 := Nat.le_trans (dlen_mono (Nat.div_le_self _ _)) lT
    have lu : dlen (T % (S + S)) ≤ 4300 := Nat.le_trans (dlen_mono (Nat.mod_le _ _)) lT
    generalize T / (S + S) = q at *
    generalize T % (S + S) = u at *
    go_wp2_with fail
    refine (unhide KD).mono ?_
    rintro e w6 ⟨qc, uc, rfl, nq, nu, b6'⟩
    clear KD
    have b6 := b5.trans (b6'.mono s5)
    have s6 := b6.size
    have rA6 := (rA4.keep b5').keep b6'
    have KU := hide (nlUp_any sa S k w6 ((hs4.keep b5').keep b6').sl (by omega) (by omega))
    go_wp2_with fail
    refine (unhide KU).mono ?_
    rintro e w7 ⟨c7, rfl, n7, b7'⟩
    clear KU
    have b7 := b6.trans (b7'.mono s6)
    have s7 := b7.size
    have l7 : dlen (S * 256 ^ k) ≤ 8400 := by rw [dlen_mul_pow k (unhide HS)]; omega
    have KR := add_any c7 qc _ (dlen (S * 256 ^ k)) _ (dlen q) _ _ w7 n7.sl (nq.keep b7').sl (byt_dig _) (byt_dig _) (Nat.le_refl _) (Nat.le_refl _) (by omega) (by omega) (by omega) (by omega)
    rw [val_dig_dlen, val_dig_dlen] at KR
    have HKR := hide KR
    clear KR
    obtain ⟨root, hroot⟩ : ∃ root, Hid (S * 256 ^ k + q = root) := ⟨_, rfl⟩
    rw [unhide hroot] at HKR
    go_wp2_with fail
    refine (unhide HKR).mono ?_
    rintro e w8 ⟨rc, rfl, nrc, b8'⟩
    clear HKR
    have b8 := b7.trans (b8'.mono s7)
    have s8 := b8.size
    have rA8 := (rA6.keep b7').keep b8'
    have nu8 := (nu.keep b7').keep b8'
    have nq8 := (nq.keep b7').keep b8'
    obtain ⟨L2, hL2⟩ : ∃ L2, Hid (L2 = k + dlen u) := ⟨_, hide rfl⟩
    have hL21 : L2 ≤ 8500 := by have := unhide hL2; omega
    have hmk2 : ∀ w, (Instr.makeSlice 23 (.int .i64 ((k : Int) + (dlen u : Int))) (.int .i64 ((k : Int) + (dlen u : Int)))).run Taig.prog w = .ok (.slice (some ⟨w.heap.size, 0, none⟩) L2 L2) (w.alloc (made (.int .u8 0) L2 5)) := by rw [unhide hL2]; exact fun w => make23 (k + dlen u) (by omega) w
    obtain ⟨w9, w10, ad2, run9, run10, had2, rowL, freL, belL⟩ := prep2 w8 ba oa k L2 (dlen A) A u 0 uc ((rA8.sub (by omega)).congr fun i hi => by rw [oct_at, oct_at, Nat.zero_add]) (nu8.mono (Nat.zero_le _)) (unhide hL2) hk
    have lroot : dlen root ≤ 9000 := by rw [← unhide hroot]; exact Nat.le_trans (dlen_add_le' (m := 8400) l7 (by omega)) (by omega)
    have hLv : Hid (val (prt A u 0 k) L2 = A % 256 ^ k + 256 ^ k * u) := by
      unfold Hid
      rw [prt_val A u 0 k L2 (unhide hL2), Nat.pow_zero, Nat.div_one]
    have hRt : Hid (Rt A (q * q) root (A % 256 ^ k + 256 ^ k * u)) := by
      have e1 := ext_start (S := S) (R := R) (K := 256 ^ k) (a1 := A / 256 ^ k % 256 ^ k) (a0 := A % 256 ^ k) (q := q) (u := u) (by rw [← unhide hT2]; exact unhide hqu)
      rw [unhide HSR, a_split, unhide hroot] at e1
      refine ⟨e1, ?_⟩
      have h1 := Nat.mod_lt A (pow256_pos k)
      have h2 := Nat.mul_le_mul_left (256 ^ k) (show u + 1 ≤ S + S from unhide hu)
      have h3 : 256 ^ k * (S + S) = 2 * (S * 256 ^ k) := by rw [Nat.mul_add, Nat.mul_comm]; omega
      rw [Nat.mul_add, Nat.mul_one, h3] at h2
      have h4 := unhide hroot
      omega
    generalize A % 256 ^ k + 256 ^ k * u = Lv0 at *
    have lQ2 : dlen (q * q) ≤ 8600 := dlen_mul_le (m := 4300) (n := 4300) lq lq
    have b10 := b8.trans (belL.mono s8)
    have s10 := b10.size
    have s810 := belL.size
    have KM := hide (mulLong_any qc qc q q (dlen q) (dlen q) w10 ((nq8.keep belL).mono (Nat.zero_le _)) ((nq8.keep belL).mono (Nat.zero_le _)) (by omega) (by omega) (Nat.le_refl _) (Nat.le_refl _) (by omega) (by omega))
    generalize q * q = Q2 at *
    have nrc10 := nrc.keep belL
    clear hqu hu l7 hroot n7 n5 nu nq nu8 nq8 rA8 rA6 rowP5 b5' b6' b7' b8'
    rcases unhide had2 with ⟨h4, h5⟩ | ⟨h4, h5⟩
    all_goals
      first
        | (subst h5
           subst h4
           rw [Nat.sub_self] at run10)
        | (have h6 := h5.symm
           subst h6
           clear h5)
      go_wp2_with fail
      refine (unhide KM).mono ?_
      rintro e w11 ⟨sq, rfl, nsq, b11'⟩
      clear KM run9 run10 hmk2
      have b11 := b10.trans (b11'.mono s10)
      have s11 := b11.size
      have s1011 := b11'.size
      go_wp2
      go_loopg [8, 9] root (fun gm rv lv wr => ∃ (rt Lv ln : Nat) (rc lc : Option Addr) (fl : Nat → Nat), rt = gm ∧ rv = .slice rc (dlen rt) (dlen rt) ∧ lv = .slice lc ln ln ∧ Nt wr w.heap.size rc rt ∧ Sl wr lc ln fl ∧ Byt fl ∧ Hid (val fl ln = Lv) ∧ ln ≤ 20000 ∧ Hid (Rt A Q2 rt Lv) ∧ dlen rt ≤ 9000 ∧ Below w11.heap.size w11 wr)
      case atStart => exact ⟨root, Lv0, _, rc, some ⟨w8.heap.size, 0, none⟩, prt A u 0 k, rfl, rfl, rfl, (nrc10.keep b11').mono (by omega), fun _ => ⟨_, _, rfl, rowL.keep b11'⟩, prt_byt _ _ _ _, hLv, by omega, hRt, lroot, Below.refl _ _⟩
      case round =>
        clear nrc10 nrc rowL freL hLv hRt lroot
        obtain ⟨rt, Lv, ln, rc, lc, fl, rfl, rfl, rfl, nrc, hsl, hfl, hLv, hln, hRt, lrt, hbel⟩ := hrel
        have sb := hbel.size
        have KC := cmp_any lc sq ln ln (dlen Q2) (dlen Q2) fl (dig Q2) wr hsl (nsq.keep hbel).sl hfl (byt_dig _) (Nat.le_refl _) (Nat.le_refl _) (by omega) (by omega) (by omega) (by omega)
        rw [unhide hLv, val_dig_dlen] at KC
        rcases Nat.lt_or_ge Lv Q2 with hlt | hge
        · rw [cmpz_lt hlt] at KC
          have HKC := hide KC
          have hpos := (unhide hRt).pos hlt
          have hst := hide ((unhide hRt).step hlt)
          clear KC
          go_wp2_with fail
          refine (unhide HKC).mono ?_
          rintro e w12 ⟨rfl, b12'⟩
          have c12 := hbel.trans (b12'.mono sb)
          have s12 := c12.size
          have K1 := add_any rc rc _ (dlen rt) _ (dlen rt) _ _ w12 (nrc.keep b12').sl (nrc.keep b12').sl (byt_dig _) (byt_dig _) (Nat.le_refl _) (Nat.le_refl _) (by omega) (by omega) (by omega) (by omega)
          rw [val_dig_dlen] at K1
          have HK1 := hide K1
          have l2 : dlen (rt + rt) ≤ 9001 := dlen_add_le' lrt lrt
          have hL3 : 1 ≤ Lv + (rt + rt) := by omega
          have hll : dlen (Lv + (rt + rt) - 1) ≤ 9003 := by
            have h1 := (unhide hst).le
            refine Nat.le_trans (dlen_mono (show _ ≤ Q2 + (rt + rt) by omega)) ?_
            exact Nat.le_trans (dlen_add_le' (m := 9001) (by omega) l2) (by omega)
          have hl0 : dlen (Lv + (rt + rt)) ≤ 9004 := by
            refine Nat.le_trans (dlen_mono (show _ ≤ (Lv + (rt + rt) - 1) + 1 by omega)) ?_
            exact dlen_add_le' (m := 9003) hll (by decide)
          clear K1
          generalize rt + rt = r2 at *
          go_wp2_with fail
          refine (unhide HK1).mono ?_
          rintro e w13 ⟨c13, rfl, n13, b13'⟩
          have c13b := c12.trans (b13'.mono s12)
          have s13 := c13b.size
          have K2 := add_any lc c13 ln ln (dlen r2) (dlen r2) fl (dig r2) w13 ((hsl.keep b12').keep b13') n13.sl hfl (byt_dig _) (Nat.le_refl _) (Nat.le_refl _) (by omega) (by omega) (by omega) (by omega)
          rw [unhide hLv, val_dig_dlen] at K2
          have HK2 := hide K2
          clear K2
          generalize Lv + r2 = L3 at *
          go_wp2_with fail
          refine (unhide HK2).mono ?_
          rintro e w14 ⟨c14, rfl, n14, b14'⟩
          have c14b := c13b.trans (b14'.mono s13)
          have s14 := c14b.size
          have ba1 := below_alloc w14 (.cells #[.int .u8 1] 5)
          have e1 : val (fun _ => 1) 1 = 1 := by simp [val]
          have K3 := sub_any rc (some ⟨w14.heap.size, 0, none⟩) _ (dlen rt) 1 1 (dig rt) (fun _ => 1) (w14.alloc (.cells #[.int .u8 1] 5)) ((((nrc.keep b12').keep b13').keep b14').keep ba1).sl (fun _ => ⟨_, _, rfl, row_new _ _ _ _ _ one_at⟩) (byt_dig _) (fun _ => (by decide : 1 < 256)) (Nat.le_refl _) (Nat.le_refl _) (by omega) (by decide) (by omega) (by decide)
          rw [val_dig_dlen, e1] at K3
          have HK3 := hide K3
          clear K3
          go_wp2_with fail
          refine (unhide HK3).mono ?_
          rintro e w15 ⟨b15', ⟨_, c15, rfl, n15⟩ | ⟨hno, _⟩⟩
          case inr => omega
          have c15b : Below w11.heap.size w11 w15 := (c14b.trans (ba1.mono s14)).trans (b15'.mono (by simp; omega))
          have s15 := c15b.size
          have ba2 := below_alloc w15 (.cells #[.int .u8 1] 5)
          have K4 := sub_any c14 (some ⟨w15.heap.size, 0, none⟩) _ (dlen L3) 1 1 (dig L3) (fun _ => 1) (w15.alloc (.cells #[.int .u8 1] 5)) (((n14.keep ba1).keep b15').keep ba2).sl (fun _ => ⟨_, _, rfl, row_new _ _ _ _ _ one_at⟩) (byt_dig _) (fun _ => (by decide : 1 < 256)) (Nat.le_refl _) (Nat.le_refl _) (by omega) (by decide) (by omega) (by decide)
          rw [val_dig_dlen, e1] at K4
          have HK4 := hide K4
          clear K4 e1
          go_wp2_with fail
          refine (unhide HK4).mono ?_
          rintro e w16 ⟨b16', ⟨_, c16, rfl, n16⟩ | ⟨hno, _⟩⟩
          case inr => omega
          have c16b : Below w11.heap.size w11 w16 := (c15b.trans (ba2.mono s15)).trans (b16'.mono (by simp; omega))
          have n15k := (n15.keep ba2).keep b16'
          have hmr : Hid (rt - 1 < rt) := by unfold Hid; omega
          have lrt' : dlen (rt - 1) ≤ 9000 := Nat.le_trans (dlen_mono (Nat.sub_le _ _)) lrt
          generalize rt - 1 = rt' at *
          generalize L3 - 1 = L4 at *
          go_wp2
          go_roundg rt'
          case measure => exact unhide hmr
          case rel => exact ⟨rt', L4, dlen L4, c15, c16, dig L4, rfl, rfl, rfl, n15k.mono (by simp; omega), n16.sl, byt_dig _, val_dig_dlen _, by omega, hst, lrt', c16b⟩
        · have hc0 : 0 ≤ cmpz Lv Q2 ∧ cmpz Lv Q2 ≤ 1 := by
            unfold cmpz; rw [if_neg (by omega)]; split <;> simp
          obtain ⟨hc1, hc2⟩ := hc0
          obtain ⟨d1, d2⟩ := (unhide hRt).done hge
          have D1 := hide d1
          have D2 := hide d2
          have HKC := hide KC
          clear KC d1 d2
          generalize cmpz Lv Q2 = cz at *
          go_wp2_with fail
          refine (unhide HKC).mono ?_
          rintro e w12 ⟨rfl, b12'⟩
          have c12 := hbel.trans (b12'.mono sb)
          have s12 := c12.size
          have K5 := sub_any lc sq ln ln (dlen Q2) (dlen Q2) fl (dig Q2) w12 (hsl.keep b12') ((nsq.keep hbel).keep b12').sl hfl (byt_dig _) (Nat.le_refl _) (Nat.le_refl _) (by omega) (by omega) (by omega) (by omega)
          rw [unhide hLv, val_dig_dlen] at K5
          have HK5 := hide K5
          clear K5
          go_wp2_with fail
          refine (unhide HK5).mono ?_
          rintro e w13 ⟨b13', ⟨_, c13, rfl, n13⟩ | ⟨hno, _⟩⟩
          case inr => omega
          go_wp2
          go_ret2
          exact ⟨rc, c13, rt, Lv - Q2, rfl, unhide D1, unhide D2, (nrc.keep b12').keep b13', n13.mono (by omega), b11.trans ((c12.trans (b13'.mono s12)).mono s11)⟩
end Go.Proofs.Ygctai
