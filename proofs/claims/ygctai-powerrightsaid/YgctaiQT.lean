/-
  calc: Factorial.
-/
import Derived.Test.YgctaiQS
namespace Go.Proofs.Ygctai
open Go.RowKit
set_option linter.unusedVariables false

theorem Own2.lo {w : World} {B : Nat} {a : Option Addr} {n cap : Nat} {c : Nat → Value} (h : Own2 w B a n cap c) : Lo w.heap.size a := fun b o x e => by
  obtain ⟨h1, ⟨rfl, rfl⟩ | ⟨b, rfl, hB, hl, r, f⟩⟩ := h
  · cases e
  · injection e with e; injection e with e; omega
theorem SOwn.lo {w : World} {B : Nat} {a : Option Addr} {n cap : Nat} {ks vs : Nat → Nat} (h : SOwn w B a n cap ks vs) : Lo w.heap.size a := by
  obtain ⟨c, h1, h2⟩ := h
  exact h1.lo

/-- The script so far, and the part. -/
structure Fa (M : Nat) (w wr : World) (i : Nat) (a : Option Addr) (m cap : Nat) (pb la ca : Nat) (ks vs : Nat → Nat) (P X q : Nat) (g : Nat → Nat) : Prop where
  scr : SOwn wr M a m cap ks vs
  fs : Fs P m X ks vs
  b : Below M w wr
  hM : M ≤ wr.heap.size
  row : Row wr pb 0 la (oct g)
  byt : Byt g
  val : val g la = q
  len : dlen q = la
  pos : 0 < q
  l16 : la ≤ 16
  cal : la ≤ ca
  cac : ca ≤ 100
  apt : Apt a (some ⟨pb, 0, none⟩)
  eq : X * q = fct i
  cnt : m ≤ 2 * i
theorem Fa.lapos {M : Nat} {w wr : World} {i : Nat} {a : Option Addr} {m cap : Nat} {pb la ca : Nat} {ks vs : Nat → Nat} {P X q : Nat} {g : Nat → Nat} (h : Fa M w wr i a m cap pb la ca ks vs P X q g) : 0 < la := by
  have := dlen_pos h.pos
  have := h.len
  omega
theorem Fa.low {M : Nat} {w wr : World} {i : Nat} {a : Option Addr} {m cap : Nat} {pb la ca : Nat} {ks vs : Nat → Nat} {P X q : Nat} {g : Nat → Nat} (h : Fa M w wr i a m cap pb la ca ks vs P X q g) : 256 ^ (la - 1) ≤ Ygctai.val g la := by
  rw [h.val]
  have := h.lapos
  refine (lt_dlen_iff q (la - 1)).1 ?_
  have := h.len
  omega

theorem row_one (w : World) : Row (w.alloc (.cells #[.int .u8 1] 5)) w.heap.size 0 1 (oct fun _ => 1) := row_new w _ 5 1 _ (fun i hi => by
  obtain rfl : i = 0 := by omega
  rfl)
/-- A script is there. -/
def Fend (M : Nat) (w w' : World) (n m : Nat) (a : Option Addr) (ks vs : Nat → Nat) : Prop := (dlen (fct n) ≤ 512 → m ≤ 128 ∧ One (rn ks vs m) (fct n)) ∧ (Scr w' a m ks vs) ∧ Below M w w'
/-- multiplyBy. -/
theorem Fa.mult {M : Nat} {w wr : World} {i : Nat} {a : Option Addr} {m cap : Nat} {pb la ca : Nat} {ks vs : Nat → Nat} {P X q : Nat} {g : Nat → Nat} (h : Fa M w wr i a m cap pb la ca ks vs P X q g) (hi : i ≤ 65536) :
    Calls Taig.prog 70 #[.slice a m cap, .slice (some ⟨pb, 0, none⟩) la ca] wr fun e w' => ∃ a' m' cap' ks' vs', e = .returned (.slice a' m' cap') ∧ SOwn w' M a' m' cap' ks' vs' ∧ Below M w w' ∧ M ≤ w'.heap.size ∧ m' ≤ m + 2 ∧ 
      (256 ^ 14 ≤ q → Fs (P + 1) m' (X * q) ks' vs') ∧ (dlen (X * q) ≤ 512 → m' ≤ 128 ∧ One (rn ks' vs' m') (X * q)) := by
  have hla := h.lapos
  have hl16 := h.l16
  have hcal := h.cal
  have hcac := h.cac
  have hcnt := h.cnt
  have hpl := h.row.block_lt hla
  have hsl : Sl wr (some ⟨pb, 0, none⟩) la g := fun _ => ⟨pb, 0, rfl, h.row⟩
  have hdq : dlen q ≤ 512 := by rw [h.len]; omega
  have hlong : dlen (X * q) ≤ 512 → m + 2 ≤ 128 := fun hd => by
    rcases Nat.lt_or_ge 128 (m + 2) with c | c
    · have := h.fs.long h.pos c; omega
    · exact c
  rcases Nat.eq_zero_or_pos m with h0 | h0
  · subst h0
    have hP : P = 0 := by
      rcases Nat.eq_zero_or_pos P with e | e
      · exact e
      · have := h.fs.len e; omega
    subst hP
    refine (multiplyBy_first M a cap ks vs _ la ca g wr h.scr hsl h.byt hcal (by omega) (by omega) h.apt (lo_some hpl) h.hM).mono ?_
    rintro e w' ⟨a', cap', rfl, hs, hb⟩
    rw [h.val] at hs
    refine ⟨a', 1, cap', _, _, rfl, hs, h.b.trans hb, Nat.le_trans h.hM hb.size, by omega, fun hq => h.fs.first' hq, fun hd => ⟨by omega, ?_⟩⟩
    rw [h.fs.first, (h.fs.one rfl).1, Nat.one_mul]
    exact one_push q
  · have hP : 0 < P := by
      rcases Nat.eq_zero_or_pos P with e | e
      · have := (h.fs.one e).2; omega
      · exact e
    refine (multiplyBy_more M a m cap ks vs _ la ca g wr h.scr hsl h.byt hcal (by omega) (by omega) h.apt (lo_some hpl) h.hM h0 (by omega)).mono ?_
    rintro e w' ⟨a', cap', rfl, hs, hb⟩
    rw [h.val] at hs
    exact ⟨a', m + 2, cap', _, _, rfl, hs, h.b.trans hb, Nat.le_trans h.hM hb.size, by omega, fun hq => h.fs.more' 0 hP hq hdq, fun hd => ⟨hlong hd, h.fs.more 0 hP h.pos hdq hd⟩⟩

theorem Fa.keep {M : Nat} {w wr w' : World} {i : Nat} {a : Option Addr} {m cap : Nat} {pb la ca : Nat} {ks vs : Nat → Nat} {P X q : Nat} {g : Nat → Nat} (h : Fa M w wr i a m cap pb la ca ks vs P X q g) (hb : Below wr.heap.size wr w') : Fa M w w' i a m cap pb la ca ks vs P X q g :=
  { h with scr := h.scr.keep hb, b := h.b.trans (hb.mono h.hM), hM := Nat.le_trans h.hM hb.size, row := h.row.keep hb }
/-- A further factor goes to the part. -/
theorem Fa.more {M : Nat} {w wr w' : World} {j : Nat} {a : Option Addr} {m cap : Nat} {pb la ca : Nat} {ks vs : Nat → Nat} {P X q : Nat} {g : Nat → Nat} (h : Fa M w wr (j - 1) a m cap pb la ca ks vs P X q g) (hj : 0 < j) (hb : Below wr.heap.size wr w')
    {b : Nat} {g' : Nat → Nat} (h1 : wr.heap.size ≤ b) (h2 : Row w' b 0 (dlen (q * j)) (oct g')) (h3 : Byt g') (h4 : Ygctai.val g' (dlen (q * j)) = q * j) (h5 : dlen (q * j) ≤ la + 2) (h6 : dlen (q * j) ≤ 16) : Fa M w w' j a m cap b (dlen (q * j)) (la + 2) ks vs P X (q * j) g' := by
  have k := h.keep hb
  have := h.l16
  refine { scr := k.scr, fs := k.fs, b := k.b, hM := k.hM, row := h2, byt := h3, val := h4, len := rfl, pos := Nat.mul_pos h.pos hj, l16 := h6, cal := h5, cac := by omega, apt := h.scr.lo.apt (fun b' o x e => by injection e with e; injection e with e; omega), eq := ?_, cnt := by have := h.cnt; omega }
  rw [← Nat.mul_assoc, h.eq]
  obtain ⟨i, rfl⟩ : ∃ i, j = i + 1 := ⟨j - 1, by omega⟩
  rfl

set_option maxRecDepth 100000 in
set_option maxHeartbeats 1000000 in
theorem factorial_any (n : Nat) (w : World) (hn : n < 65536) :
    Calls Taig.prog 35 #[.int .u16 (n : Int)] w fun e w' => (∃ a m cap ks vs, e = .returned (.tuple #[.slice a m cap, .bool true]) ∧ m ≤ 128 ∧ Scr w' a m ks vs ∧ (dlen (fct n) ≤ 512 → One (rn ks vs m) (fct n)) ∧ Below w.heap.size w w') ∨
      (e = .returned (.tuple #[.slice none 0 0, .bool false]) ∧ 512 < dlen (fct n) ∧ Below w.heap.size w w') := by
  have hba := below_alloc w (.cells #[.int .u8 1] 5)
  have s1 : (w.alloc (.cells #[.int .u8 1] 5)).heap.size = w.heap.size + 1 := by simp
  have st : Hid (Fa w.heap.size w (w.alloc (.cells #[.int .u8 1] 5)) 1 none 0 0 w.heap.size 1 1 (fun _ => 0) (fun _ => 0) 0 1 1 (fun _ => 1)) := {
    scr := sown_nil _ _ _ _
    fs := fs_nil _ _
    b := hba
    hM := by omega
    row := row_one w
    byt := fun _ => (by decide : 1 < 256)
    val := rfl
    len := by decide
    pos := by decide
    l16 := by decide
    cal := by decide
    cac := by decide
    apt := apt_none _
    eq := rfl
    cnt := by decide }
  go_enter Taig.func35, Taig.ntmps35
  go_wp2
  generalize w.alloc (.cells #[.int .u8 1] 5) = w1 at *
  go_loopg [4, 5, 6] (n + 1) (fun gk sv pv iv wr => ∃ (j : Nat) (a : Option Addr) (m cap pb la ca : Nat) (ks vs : Nat → Nat) (P X q : Nat) (g : Nat → Nat), gk = n + 3 - j ∧ (j ≤ n + 1 ∨ j ≤ 2) ∧ 2 ≤ j ∧ sv = .slice a m cap ∧ pv = .slice (some ⟨pb, 0, none⟩) la ca ∧ iv = .int .u32 (j : Int) ∧ Hid (Fa w.heap.size w wr (j - 1) a m cap pb la ca ks vs P X q g))
  case atStart => exact ⟨2, none, 0, 0, w.heap.size, 1, 1, _, _, 0, 1, 1, _, by omega, by omega, by omega, rfl, rfl, rfl, st⟩
  case round =>
    obtain ⟨j, a, m, cap, pb, la, ca, ks, vs, P, X, q, g, rfl, hi, hj2, rfl, rfl, rfl, H⟩ := hrel
    by_cases c1 : j ≤ n
    · have K := timesSmall_any (some ⟨pb, 0, none⟩) la ca j g wr (fun _ => ⟨pb, 0, rfl, (unhide H).row⟩) (unhide H).byt (unhide H).lapos (unhide H).l16 (unhide H).low (by omega) (by omega)
      rw [(unhide H).val] at K
      have HK := hide K
      clear K hi
      go_wp2_with fail
      refine (unhide HK).mono ?_
      rintro e w2 ⟨b, g2, rfl, hb1, hb2, hr2, hg2, hv2, hl2, hbb⟩
      have R2 := hide hr2
      have V2 := hide hv2
      have l18 := (unhide H).l16
      clear hr2 hv2
      have D : Hid (dlen (q * j) = dlen (q * j)) := rfl
      by_cases c2 : dlen (q * j) ≤ 16
      · have H2 := hide ((unhide H).more (by omega) hbb hb1 (unhide R2) hg2 (unhide V2) hl2 c2)
        generalize dlen (q * j) = L at *
        go_wp2
        go_roundg (n + 3 - (j + 1))
        case measure => omega
        case rel =>
          exact ⟨j + 1, a, m, cap, b, L, la + 2, ks, vs, P, X, q * j, g2, rfl, by omega, by omega, rfl, rfl, rfl, H2⟩
      · have big := part_big (show j < 65536 by omega) (show 16 < dlen (q * j) by omega)
        have KM := hide (((unhide H).keep hbb).mult (by omega))
        generalize dlen (q * j) = L at *
        go_wp2_with fail
        refine (unhide KM).mono ?_
        rintro e w3 ⟨a', m', cap', ks', vs', rfl, hs, hb3, hM3, hm', hfs, _⟩
        have hba2 := below_alloc w3 (.cells #[.int .u8 1] 5)
        have K3 := timesSmall_any (some ⟨w3.heap.size, 0, none⟩) 1 1 j (fun _ => 1) (w3.alloc (.cells #[.int .u8 1] 5)) (fun _ => ⟨_, 0, rfl, row_one w3⟩) (fun _ => (by decide : 1 < 256)) (by decide) (by decide) (by decide) (by omega) (by omega)
        rw [show val (fun _ => 1) 1 = 1 from rfl, Nat.one_mul] at K3
        have HK3 := hide K3
        clear K3
        go_wp2_with fail
        refine (unhide HK3).mono ?_
        rintro e w4 ⟨b4, g4, rfl, hb41, hb42, hr4, hg4, hv4, hl4, hbb4⟩
        have R4 := hide hr4
        have V4 := hide hv4
        have bb4 : Below w3.heap.size w3 w4 := hba2.trans (hbb4.mono (by simp))
        have s4 : (w3.alloc (.cells #[.int .u8 1] 5)).heap.size = w3.heap.size + 1 := by simp
        clear hr4 hv4
        have F4 : Hid (Fa w.heap.size w w4 j a' m' cap' b4 (dlen j) (1 + 2) ks' vs' (P + 1) (X * q) j g4) := {
          scr := hs.keep bb4, fs := hfs big, b := hb3.trans (bb4.mono hM3), hM := Nat.le_trans hM3 bb4.size, row := unhide R4, byt := hg4, val := unhide V4, len := rfl, pos := by omega, l16 := by omega, cal := hl4, cac := by omega
          apt := hs.lo.apt (fun b' o x e => by injection e with e; injection e with e; omega)
          eq := by
            rw [(unhide H).eq]
            obtain ⟨i, rfl⟩ : ∃ i, j = i + 1 := ⟨j - 1, by omega⟩
            rfl
          cnt := by have := (unhide H).cnt; omega }
        generalize dlen j = L4 at *
        go_wp2
        go_roundg (n + 3 - (j + 1))
        case measure => omega
        case rel =>
          exact ⟨j + 1, a', m', cap', b4, L4, _, ks', vs', _, _, _, g4, rfl, by omega, by omega, rfl, rfl, rfl, F4⟩
    · have KM := hide ((unhide H).mult (by omega))
      have hfin : Hid (X * q = fct n) := by
        show X * q = fct n
        rw [(unhide H).eq]
        rcases hi with h | h
        · rw [show j - 1 = n by omega]
        · obtain rfl : j = 2 := by omega
          have : n = 0 ∨ n = 1 := by omega
          rcases this with rfl | rfl <;> rfl
      clear hi
      go_wp2_with fail
      refine (unhide KM).mono ?_
      rintro e w3 ⟨a', m', cap', ks', vs', rfl, hs, hb3, hM3, hm', _, hfin2⟩
      have HF2 := hide hfin2
      have HSC := hide hs.scr
      clear hfin2
      by_cases c2 : m' ≤ 128
      · go_wp2
        go_ret2
        refine .inl ⟨a', m', cap', ks', vs', rfl, c2, unhide HSC, ?_, hb3⟩
        rw [← unhide hfin]
        exact fun hd => (unhide HF2 hd).2
      · go_wp2
        go_ret2
        refine .inr ⟨rfl, ?_, hb3⟩
        rw [← unhide hfin]
        rcases Nat.lt_or_ge 512 (dlen (X * q)) with h | h
        · exact h
        · exact absurd (unhide HF2 h).1 c2
end Go.Proofs.Ygctai
