/-
  law: ownNat, sound, divided, flip.
-/
import Derived.Test.YgctaiLG2
import Derived.Test.YgctaiLawB
namespace Go.Proofs.Ygctai
open Go.RowKit
set_option linter.unusedVariables false

/-- Digits of one's own, zeros at the top let in. -/
def OwnS (w : World) (B : Nat) (c : Option Addr) (n : Nat) (f : Nat → Nat) : Prop := 0 < n → ∃ b off, c = some ⟨b, off, none⟩ ∧ B ≤ b ∧ Row w b off n (oct f) ∧ Free w b off n
theorem OwnS.sl {w : World} {B : Nat} {c : Option Addr} {n : Nat} {f : Nat → Nat} (h : OwnS w B c n f) : Sl w c n f := fun hn => by
  obtain ⟨b, off, e, _, r, _⟩ := h hn
  exact ⟨b, off, e, r⟩
theorem OwnS.keep {w w' : World} {B : Nat} {c : Option Addr} {n : Nat} {f : Nat → Nat} (h : OwnS w B c n f) (hb : Below w.heap.size w w') : OwnS w' B c n f := fun hn => by
  obtain ⟨b, off, e, hB, r, fr⟩ := h hn
  exact ⟨b, off, e, hB, r.keep hb, fr.below hb (r.block_lt hn)⟩
theorem OwnS.nt {w : World} {B : Nat} {c : Option Addr} {n : Nat} {f : Nat → Nat} (h : OwnS w B c n f) (hf : Byt f) : Nt w 0 (nz (val f n) c) (val f n) := by
  rcases Nat.eq_zero_or_pos n with e | e
  · subst e
    show Nt w 0 (nz 0 c) 0
    rw [nz_zero]; exact Nt.nil _ _
  · obtain ⟨b, off, rfl, hB, r, fr⟩ := h e
    exact (nt_of_row hf hB r fr).mono (Nat.zero_le _)

set_option maxRecDepth 100000 in
set_option maxHeartbeats 400000 in
/-- law.ownNat. -/
theorem ownNat_any (a : Option Addr) (n ca : Nat) (f : Nat → Nat) (w : World) (hs : Sl w a n f) (hn : n ≤ 1099511627776) :
    Calls Taig.prog 36 #[.slice a n ca] w fun e w' => ∃ c, e = .returned (.slice c n n) ∧ OwnS w' w.heap.size c n f ∧ c.isNone = a.isNone ∧ Below w.heap.size w w' := by
  have e1 := eqNil22 a n ca
  cases a with
  | none =>
    obtain rfl : n = 0 := by
      rcases Nat.eq_zero_or_pos n with e | e
      · exact e
      · obtain ⟨b, off, e2, _⟩ := hs e; cases e2
    go_enter Taig.func36, Taig.ntmps36
    go_wp2
    go_ret
    exact ⟨none, rfl, fun h => absurd h (by decide), rfl, Below.refl _ _⟩
  | some ad =>
    have hmk := make23 n (by omega)
    have r0 := row_made w (.int .u8 0) n 5
    have f0 := free_made w (.int .u8 0) n 5
    have b0 := below_alloc w (made (.int .u8 0) n 5)
    obtain ⟨w2, run2, wr2, row2⟩ := copy_oct 23 22 3 Taig.underlying23 (w.alloc (made (.int .u8 0) n 5)) w.heap.size 0 n n (some ad) n ca f (fun _ => 0) r0 f0 (hs.keep b0)
    rw [Nat.min_self] at run2 wr2 row2
    have hb2 : Below w.heap.size w w2 := wr2.below b0 (Nat.le_refl _) (by simp)
    have hf2 : Free w2 w.heap.size 0 n := f0.wr wr2 (by simp)
    have hr2 : Row w2 w.heap.size 0 n (oct f) := row2.congr fun i hi => by rw [oct_at, oct_at, if_pos hi]
    clear row2 r0 f0 b0 wr2
    go_enter Taig.func36, Taig.ntmps36
    go_wp2
    go_ret
    exact ⟨_, rfl, fun _ => ⟨_, _, rfl, Nat.le_refl _, hr2, hf2⟩, rfl, hb2⟩

set_option maxRecDepth 100000 in
/-- law.sound. -/
theorem sound_any (a : Option Addr) (n ca : Nat) (f : Nat → Nat) (A : Nat) (w : World) (hs : Sl w a n f) (hf : Byt f) (hn : n ≤ ca) (hc : ca ≤ 1099511627776) (hA : val f n = A) :
    Calls Taig.prog 38 #[.slice a n ca] w fun e w' => ∃ c, e = .returned (.slice c (dlen A) (dlen A)) ∧ Nt w' w.heap.size c A ∧ Below w.heap.size w w' := by
  have KA := add_any a none n ca 0 0 f (fun _ => 0) w hs (fun h => absurd h (by decide)) hf byt_zero hn (Nat.le_refl _) (by omega) (by omega) (by omega) (by omega)
  rw [hA, val, Nat.add_zero] at KA
  have HKA := hide KA
  clear KA hA
  go_enter Taig.func38, Taig.ntmps38
  go_wp2_with fail
  refine (unhide HKA).mono ?_
  rintro e w2 ⟨c, rfl, hc2, hb2⟩
  go_wp2
  go_ret
  exact ⟨c, rfl, hc2, hb2⟩

set_option maxRecDepth 100000 in
set_option maxHeartbeats 1000000 in
/-- law.divided. -/
theorem divided_true (a b q r : Option Addr) (A D Q R : Nat) (w : World) (ha : Nt w 0 a A) (hb : Nt w 0 b D) (hq : Nt w 0 q Q) (hr : Nt w 0 r R) (hE : Q * D + R = A) (hRD : R < D) (l1 : dlen A ≤ 1048576) (l2 : dlen D ≤ 1048576) (l3 : dlen Q ≤ 1048576) (l4 : dlen R ≤ 1048576) :
    Calls Taig.prog 39 #[.slice a (dlen A) (dlen A), .slice b (dlen D) (dlen D), .slice q (dlen Q) (dlen Q), .slice r (dlen R) (dlen R)] w fun e w' => e = .returned (.bool true) ∧ Below w.heap.size w w' := by
  have KC := cmp_any r b _ (dlen R) _ (dlen D) _ _ w hr.sl hb.sl (byt_dig _) (byt_dig _) (Nat.le_refl _) (Nat.le_refl _) (by omega) (by omega) (by omega) (by omega)
  rw [val_dig_dlen, val_dig_dlen, cmpz_lt hRD] at KC
  have HKC := hide KC
  have HE := hide hE
  clear KC hE hRD
  go_enter Taig.func39, Taig.ntmps39
  go_wp2_with fail
  refine (unhide HKC).mono ?_
  rintro e w1 ⟨rfl, hb1⟩
  have s1 := hb1.size
  have KM := mul_any q b _ (dlen Q) _ (dlen D) _ _ w1 (hq.keep hb1).sl (hb.keep hb1).sl (byt_dig _) (byt_dig _) (Nat.le_refl _) (Nat.le_refl _) (by omega) (by omega) (by omega) (by omega)
  rw [val_dig_dlen, val_dig_dlen] at KM
  have HKM := hide KM
  clear KM
  have lm : dlen (Q * D) ≤ 1048576 + 1048576 := dlen_mul_le l3 l2
  go_wp2_with fail
  refine (unhide HKM).mono ?_
  rintro e w2 ⟨c2, rfl, n2, hb2⟩
  have b2 := hb1.trans (hb2.mono s1)
  have s2 := b2.size
  have KA := add_any c2 r _ (dlen (Q * D)) _ (dlen R) _ _ w2 n2.sl (hr.keep b2).sl (byt_dig _) (byt_dig _) (Nat.le_refl _) (Nat.le_refl _) (by omega) (by omega) (by omega) (by omega)
  rw [val_dig_dlen, val_dig_dlen, unhide HE] at KA
  have HKA := hide KA
  clear KA
  go_wp2_with fail
  refine (unhide HKA).mono ?_
  rintro e w3 ⟨c3, rfl, n3, hb3⟩
  have b3 := b2.trans (hb3.mono s2)
  have s3 := b3.size
  have KS := hide (sameNat_true c3 a (dlen A) (dlen A) (dlen A) (dig A) w3 n3.sl (ha.keep b3).sl (by rw [n3.isNone, ha.isNone]) (by omega))
  go_wp2_with fail
  refine (unhide KS).mono ?_
  rintro e w4 ⟨rfl, hb4⟩
  have b4 := b3.trans (hb4.mono s3)
  have s4 := b4.size
  have KQ := add_any q none _ (dlen Q) 0 0 _ (fun _ => 0) w4 (hq.keep b4).sl (fun h => absurd h (by decide)) (byt_dig _) byt_zero (Nat.le_refl _) (Nat.le_refl _) (by omega) (by omega) (by omega) (by omega)
  rw [val_dig_dlen, val, Nat.add_zero] at KQ
  have HKQ := hide KQ
  clear KQ
  go_wp2_with fail
  refine (unhide HKQ).mono ?_
  rintro e w5 ⟨c5, rfl, n5, hb5⟩
  have b5 := b4.trans (hb5.mono s4)
  have s5 := b5.size
  have KS2 := hide (sameNat_true q c5 (dlen Q) (dlen Q) (dlen Q) (dig Q) w5 (hq.keep b5).sl n5.sl (by rw [n5.isNone, hq.isNone]) (by omega))
  go_wp2_with fail
  refine (unhide KS2).mono ?_
  rintro e w6 ⟨rfl, hb6⟩
  have b6 := b5.trans (hb6.mono s5)
  have s6 := b6.size
  have KR := add_any r none _ (dlen R) 0 0 _ (fun _ => 0) w6 (hr.keep b6).sl (fun h => absurd h (by decide)) (byt_dig _) byt_zero (Nat.le_refl _) (Nat.le_refl _) (by omega) (by omega) (by omega) (by omega)
  rw [val_dig_dlen, val, Nat.add_zero] at KR
  have HKR := hide KR
  clear KR
  go_wp2_with fail
  refine (unhide HKR).mono ?_
  rintro e w7 ⟨c7, rfl, n7, hb7⟩
  have b7 := b6.trans (hb7.mono s6)
  have s7 := b7.size
  have KS3 := hide (sameNat_true r c7 (dlen R) (dlen R) (dlen R) (dig R) w7 (hr.keep b7).sl n7.sl (by rw [n7.isNone, hr.isNone]) (by omega))
  go_wp2_with fail
  refine (unhide KS3).mono ?_
  rintro e w8 ⟨rfl, hb8⟩
  go_wp2
  go_ret
  exact ⟨rfl, b7.trans (hb8.mono s7)⟩

/-- Bytes stay bytes. -/
def BytKeep (w w' : World) : Prop := (∀ b off n f, Byt f → Row w b off n (oct f) → ∃ g, Byt g ∧ Row w' b off n (oct g)) ∧ ∀ b off n, Free w b off n → Free w' b off n
theorem BytKeep.refl (w : World) : BytKeep w w := ⟨fun _ _ _ f hf r => ⟨f, hf, r⟩, fun _ _ _ h => h⟩
theorem BytKeep.setCell {w w' : World} (h : BytKeep w w') (b o v : Nat) (hv : v < 256) : BytKeep w (w'.setCell ⟨b, o, none⟩ (.int .u8 (v : Int))) := by
  refine ⟨fun b' off n f hf r => ?_, fun b' off n hf => (h.2 b' off n hf).setCell _ _⟩
  obtain ⟨g, hg, r2⟩ := h.1 b' off n f hf r
  by_cases c : b = b' ∧ off ≤ o ∧ o < off + n
  · obtain ⟨rfl, c1, c2⟩ := c
    exact ⟨upd g (o - off) v, hg.upd _ _ hv, r2.put (o - off) v (by omega) (by omega) rfl⟩
  · exact ⟨g, hg, r2.setOther (by omega) _⟩

set_option maxRecDepth 100000 in
set_option maxHeartbeats 400000 in
/-- law.flip of a row. -/
theorem flip_core (b off n ca B : Nat) (f : Nat → Nat) (w : World) (hr : Row w b off n (oct f)) (hfr : Free w b off n) (hf : Byt f) (hn : n ≤ 1048576) (hB : B ≤ b) :
    Calls Taig.prog 40 #[.slice (some ⟨b, off, none⟩) n ca] w fun e w' => e = .returned (.tuple #[]) ∧ BytKeep w w' ∧ Below B w w' := by
  go_enter Taig.func40, Taig.ntmps40
  go_wp2
  go_loopg [2] n (fun gi iv wr => ∃ (i : Nat) (g : Nat → Nat), gi = n - i ∧ i ≤ n ∧ iv = .int .i64 i ∧ Byt g ∧ Row wr b off n (oct g) ∧ Free wr b off n ∧ BytKeep w wr ∧ Below B w wr)
  case atStart => exact ⟨0, f, rfl, Nat.zero_le _, rfl, hf, hr, hfr, BytKeep.refl _, Below.refl _ _⟩
  case round =>
    clear hr hfr hf
    obtain ⟨i, g, rfl, hi, rfl, hg, hr, hfr, hk, hb⟩ := hrel
    by_cases hlt : i < n
    · have c1 := hr.cell hlt
      have f1 := hfr i hlt
      simp only [oct_at] at c1
      have a1 := hg i
      have x1 := u8_xor_nat (g i) 255 a1 (by decide)
      have x2 : g i ^^^ 255 < 256 := Nat.xor_lt_two_pow (n := 8) a1 (by decide)
      have x3 : bits .xor .u8 (g i : Int) 255 = ((g i ^^^ 255 : Nat) : Int) := x1
      generalize g i ^^^ 255 = y at *
      go_wp2
      go_roundg (n - (i + 1))
      case measure => omega
      case rel => exact ⟨i + 1, upd g i y, rfl, by omega, by go_num, hg.upd _ _ x2, hr.put i y hlt rfl rfl, hfr.setCell _ _, hk.setCell b (off + i) y x2, hb.setCell hB _⟩
    · go_wp2
      go_end0
      exact ⟨rfl, hk, hb⟩

set_option maxRecDepth 100000 in
/-- law.flip. -/
theorem flip_any (B : Nat) (a : Option Addr) (n ca : Nat) (f : Nat → Nat) (w : World) (h : OwnS w B a n f) (hf : Byt f) (hn : n ≤ 1048576) :
    Calls Taig.prog 40 #[.slice a n ca] w fun e w' => e = .returned (.tuple #[]) ∧ BytKeep w w' ∧ Below B w w' := by
  rcases Nat.eq_zero_or_pos n with e | e
  · subst e
    go_enter Taig.func40, Taig.ntmps40
    go_wp2
    go_loopg [2] 0 (fun gi iv wr => iv = .int .i64 0 ∧ w = wr)
    case atStart => exact ⟨rfl, rfl⟩
    case round =>
      obtain ⟨rfl, rfl⟩ := hrel
      go_wp2
      go_end0
      exact ⟨rfl, BytKeep.refl _, Below.refl _ _⟩
  · obtain ⟨b, off, rfl, hB, r, fr⟩ := h e
    exact flip_core b off n ca B f w r fr hf hn hB
theorem Nt.own {w : World} {B : Nat} {a : Option Addr} {N : Nat} (h : Nt w B a N) : OwnS w B a (dlen N) (dig N) := fun hn => by
  have : 0 < N := by
    rcases Nat.eq_zero_or_pos N with e | e
    · rw [e, dlen_zero] at hn; omega
    · exact e
  obtain ⟨b, off, e, hB, r, f⟩ := h.2 this
  exact ⟨b, off, e, hB, r, f⟩
theorem OwnS.byt {w w' : World} {B : Nat} {a : Option Addr} {n : Nat} {f : Nat → Nat} (h : OwnS w B a n f) (hf : Byt f) (hk : BytKeep w w') : ∃ g, Byt g ∧ OwnS w' B a n g := by
  rcases Nat.eq_zero_or_pos n with e | e
  · exact ⟨f, hf, fun h => absurd h (by omega)⟩
  · obtain ⟨b, off, e1, hB, r, fr⟩ := h e
    obtain ⟨g, hg, r2⟩ := hk.1 b off n f hf r
    exact ⟨g, hg, fun _ => ⟨b, off, e1, hB, r2, hk.2 b off n fr⟩⟩
end Go.Proofs.Ygctai
