/-
  calc: Power.
-/
import Derived.Test.YgctaiQT
namespace Go.Proofs.Ygctai
open Go.RowKit
set_option linter.unusedVariables false

theorem SOwn.apt {w : World} {B : Nat} {a : Option Addr} {n cap : Nat} {ks vs : Nat → Nat} (h : SOwn w B a n cap ks vs) {D : Nat} (hD : D < B) : Apt a (some ⟨D, 0, none⟩) := by
  obtain ⟨c, ⟨h1, ⟨rfl, _⟩ | ⟨b, rfl, hB, hb, r, _⟩⟩, h2⟩ := h
  · exact apt_none _
  · intro b' o x o' x' e1 e2
    injection e1 with e1; injection e1 with e1
    injection e2 with e2; injection e2 with e2
    omega
/-- A script of one operation. -/
theorem sown_new (w : World) (B : Nat) (u1 u2 : Value) (k v : Nat) (hB : B ≤ w.heap.size) (h : Opx (w.alloc (.cells #[u1, u2] 74)) (some ⟨w.heap.size, 0, none⟩) u1 u2 k v) : SOwn (w.alloc (.cells #[u1, u2] 74)) B (some ⟨w.heap.size, 0, none⟩) 1 1 (fun _ => k) (fun _ => v) := by
  refine ⟨fun i => if i = 0 then u1 else u2, ⟨Nat.le_refl _, .inr ⟨_, rfl, hB, by simp, row_new w _ 74 2 _ (fun i hi => ?_), free_new _ _ _ _⟩⟩, fun i hi => ?_⟩
  · match i, hi with
    | 0, _ => rfl
    | 1, _ => rfl
  · obtain rfl : i = 0 := by omega
    exact h

/-- What is at a round of the script's loop: bits from t on are done. -/
structure Po (w wr : World) (b e t : Nat) (f : Nat → Nat) (la : Nat) (a : Option Addr) (m cap : Nat) (ks vs : Nat → Nat) : Prop where
  scr : SOwn wr (w.heap.size + 1) a m cap ks vs
  pw : Pw b e t m ks vs
  b : Below w.heap.size w wr
  hM : w.heap.size + 1 ≤ wr.heap.size
  row : Row wr w.heap.size 0 la (oct f)
/-- A Sqr. -/
theorem Po.sqr {w wr : World} {b e t : Nat} {f : Nat → Nat} {la : Nat} {a : Option Addr} {m cap : Nat} {ks vs : Nat → Nat} (h : Po w wr b e t f la a m cap ks vs) (hm : m ≤ 100) :
    ∃ a' cap' w', (Builtin.append_ #[43, 43] 43 #[.slice a m cap, .slice (some ⟨wr.heap.size, 0, none⟩) 1 1]).run Taig.prog (wr.alloc (.cells #[.int .u8 4, .slice none 0 0] 74)) = .ok (.slice a' (m + 1) cap') w' ∧
      SOwn w' (w.heap.size + 1) a' (m + 1) cap' (upd ks m 4) (upd vs m 0) ∧ Below (w.heap.size + 1) wr w' := by
  have hba := below_alloc wr (.cells #[.int .u8 4, .slice none 0 0] 74)
  have s1 : (wr.alloc (.cells #[.int .u8 4, .slice none 0 0] 74)).heap.size = wr.heap.size + 1 := by simp
  have q0 : (wr.alloc (.cells #[.int .u8 4, .slice none 0 0] 74)).cell? ⟨wr.heap.size, 0, none⟩ = some (.int .u8 4) := by rw [World.cell?_alloc_at _ _ _ _ rfl]; rfl
  have q1 : (wr.alloc (.cells #[.int .u8 4, .slice none 0 0] 74)).cell? ⟨wr.heap.size, 1, none⟩ = some (.slice none 0 0) := by rw [World.cell?_alloc_at _ _ _ _ rfl]; rfl
  have hM := h.hM
  obtain ⟨a', cap', w', hr, ho, hg, hw⟩ := (h.scr.keep hba).app1 wr.heap.size 4 0 _ _ q0 q1 (opx_nil _ a 4 (.inr rfl)) (by omega) (by omega)
  exact ⟨a', cap', w', hr, ho, hg.below (hba.mono hM) (by omega) h.scr.hi⟩
/-- A Push of the base and a Mul. -/
theorem po_mul {w w1 : World} {f : Nat → Nat} {la : Nat} {a : Option Addr} {m cap : Nat} {ks vs : Nat → Nat} (h : SOwn w1 (w.heap.size + 1) a m cap ks vs) (hM : w.heap.size + 1 ≤ w1.heap.size) (hrow : Row w1 w.heap.size 0 la (oct f)) (hf : Byt f) (hla : la ≤ 512) (hm : m ≤ 100) :
    ∃ a' cap' w', (Builtin.append_ #[43, 43] 43 #[.slice a m cap, .slice (some ⟨w1.heap.size, 0, none⟩) 2 2]).run Taig.prog (w1.alloc (.cells #[.int .u8 0, .slice (some ⟨w.heap.size, 0, none⟩) la la, .int .u8 1, .slice none 0 0] 74)) = .ok (.slice a' (m + 2) cap') w' ∧
      SOwn w' (w.heap.size + 1) a' (m + 2) cap' (upd (upd ks m 0) (m + 1) 1) (upd (upd vs m (val f la)) (m + 1) 0) ∧ Below (w.heap.size + 1) w1 w' := by
  have hba := below_alloc w1 (.cells #[.int .u8 0, .slice (some ⟨w.heap.size, 0, none⟩) la la, .int .u8 1, .slice none 0 0] 74)
  have s1 : (w1.alloc (.cells #[.int .u8 0, .slice (some ⟨w.heap.size, 0, none⟩) la la, .int .u8 1, .slice none 0 0] 74)).heap.size = w1.heap.size + 1 := by simp
  have q : ∀ (j : Nat) (v : Value), (#[.int .u8 0, .slice (some ⟨w.heap.size, 0, none⟩) la la, .int .u8 1, .slice none 0 0] : Array Value)[j]? = some v → (w1.alloc (.cells #[.int .u8 0, .slice (some ⟨w.heap.size, 0, none⟩) la la, .int .u8 1, .slice none 0 0] 74)).cell? ⟨w1.heap.size, j, none⟩ = some v := fun j v hv => by rw [World.cell?_alloc_at _ _ _ _ rfl]; exact hv
  have hsl : Sl (w1.alloc (.cells #[.int .u8 0, .slice (some ⟨w.heap.size, 0, none⟩) la la, .int .u8 1, .slice none 0 0] 74)) (some ⟨w.heap.size, 0, none⟩) la f := fun _ => ⟨_, 0, rfl, hrow.keep hba⟩
  obtain ⟨a', cap', w', hr, ho, hg, hw⟩ := (h.keep hba).app2 w1.heap.size 0 (val f la) 1 0 _ _ _ _ (q 0 _ rfl) (q 1 _ rfl) (q 2 _ rfl) (q 3 _ rfl) (opx_push _ a _ la la f hsl hf (Nat.le_refl _) (by omega) hla (h.apt (Nat.lt_succ_self _)) (lo_some (by omega))) (opx_nil _ a 1 (.inl rfl)) (by omega) (by omega)
  exact ⟨a', cap', w', hr, ho, hg.below (hba.mono hM) (by omega) h.hi⟩

set_option maxRecDepth 100000 in
set_option maxHeartbeats 1000000 in
theorem power_zero (a : Option Addr) (la ca : Nat) (w : World) :
    Calls Taig.prog 31 #[.slice a la ca, .int .u16 0] w fun e w' => ∃ a' m cap ks vs, e = .returned (.slice a' m cap) ∧ m ≤ 128 ∧ Scr w' a' m ks vs ∧ One (rn ks vs m) 1 ∧ Below w.heap.size w w' := by
  have b0 := below_alloc w (.cells #[.int .u8 1] 5)
  have s0 : (w.alloc (.cells #[.int .u8 1] 5)).heap.size = w.heap.size + 1 := by simp
  have b1 := below_alloc (w.alloc (.cells #[.int .u8 1] 5)) (.cells #[.int .u8 0, .slice (some ⟨w.heap.size, 0, none⟩) 1 1] 74)
  have r := (row_one w).keep b1
  have so := sown_new (w.alloc (.cells #[.int .u8 1] 5)) 0 (.int .u8 0) (.slice (some ⟨w.heap.size, 0, none⟩) 1 1) 0 1 (Nat.zero_le _)
    (opx_push _ _ (some ⟨w.heap.size, 0, none⟩) 1 1 (fun _ => 1) (fun _ => ⟨_, 0, rfl, r⟩) (fun _ => (by decide : 1 < 256)) (Nat.le_refl _) (by omega) (by omega) (fun b o x o' x' e1 e2 => by
      injection e1 with e1; injection e1 with e1
      injection e2 with e2; injection e2 with e2
      omega) (lo_some (by simp; omega)))
  have HS := hide so.scr
  rw [s0] at HS
  have bb := b0.trans (b1.mono (by omega))
  clear so r b0 b1
  go_enter Taig.func31, Taig.ntmps31
  go_wp2
  go_ret
  exact ⟨_, 1, _, _, _, rfl, by omega, unhide HS, one_push 1, bb⟩

theorem bit16 {d k : Nat} (hd : d < 65536) : bits .and .u16 ((d : Int) / 2 ^ k) 1 = ((d / 2 ^ k % 2 : Nat) : Int) := by
  have h1 : d / 2 ^ k < 65536 := Nat.lt_of_le_of_lt (Nat.div_le_self _ _) hd
  have := u16_and_nat (d / 2 ^ k) 1 h1 (by decide)
  rw [Nat.and_one_is_mod] at this
  rw [← this]; simp
theorem shr_cast (e h : Nat) : (e : Int) / 2 ^ h = ((e / 2 ^ h : Nat) : Int) := by simp
theorem minus_one {h : Nat} : (h = 0 ∧ Value.int .i64 ((h : Int) - 1) = .int .i64 (-1)) ∨ ∃ i : Nat, h = i + 1 ∧ Value.int .i64 ((h : Int) - 1) = .int .i64 (i : Int) := by
  rcases Nat.eq_zero_or_pos h with rfl | h0
  · exact .inl ⟨rfl, rfl⟩
  · exact .inr ⟨h - 1, by omega, int_eq (by omega)⟩

set_option maxRecDepth 100000 in
set_option maxHeartbeats 2000000 in
theorem power_pos (a : Option Addr) (la ca e : Nat) (f : Nat → Nat) (w : World) (hs : Sl w a la f) (hf : Byt f) (hla : la ≤ 512) (he0 : 0 < e) (he : e < 65536) :
    Calls Taig.prog 31 #[.slice a la ca, .int .u16 (e : Int)] w fun e' w' => ∃ a' m cap ks vs, e' = .returned (.slice a' m cap) ∧ m ≤ 128 ∧ Scr w' a' m ks vs ∧ (dlen (val f la ^ e) ≤ 512 → One (rn ks vs m) (val f la ^ e)) ∧ Below w.heap.size w w' := by
  have hmk := make22 la (by omega) w
  have r0 := row_made w (.int .u8 0) la 5
  have f0 := free_made w (.int .u8 0) la 5
  have b0 := below_alloc w (made (.int .u8 0) la 5)
  have s0 : (w.alloc (made (.int .u8 0) la 5)).heap.size = w.heap.size + 1 := by simp
  obtain ⟨w2, hr, hw, r2⟩ := copy_oct 22 22 3 Taig.underlying22 (w.alloc (made (.int .u8 0) la 5)) w.heap.size 0 la la a la ca f (fun _ => 0) r0 f0 (hs.keep b0)
  rw [Nat.min_self] at hr hw r2
  have bA : Below w.heap.size w w2 := hw.below b0 (Nat.le_refl _) (by omega)
  have s2 : w.heap.size + 1 ≤ w2.heap.size := by have := hw.size; omega
  have R2 := hide (r2.congr (d := oct f) (fun i hi => by rw [oct_at, oct_at, if_pos hi]))
  clear r2 r0 f0 hs hw s0 b0
  have ne0 : ((e : Int) == 0) = false := by simp; omega
  go_enter Taig.func31, Taig.ntmps31
  go_wp2_with fail
  go_loopg [6] 16 (fun gk hv wr => ∃ h : Nat, gk = h + 1 ∧ h ≤ 15 ∧ Hid (e / 2 ^ (h + 1) = 0) ∧ hv = .int .i64 (h : Int) ∧ w2 = wr)
  case atStart => exact ⟨15, rfl, by omega, (by show e / 2 ^ 16 = 0; omega), rfl, rfl⟩
  case round =>
    obtain ⟨h, rfl, hh, HE, rfl, rfl⟩ := hrel
    by_cases c1 : e / 2 ^ h = 0
    · have z : (((e : Int) / 2 ^ h) == 0) = true := by rw [shr_cast, c1]; rfl
      have h0 : 0 < h := by
        rcases Nat.eq_zero_or_pos h with rfl | h0
        · rw [Nat.pow_zero, Nat.div_one] at c1; omega
        · exact h0
      have HC := hide c1
      clear c1
      go_wp2
      go_roundg h
      case measure => omega
      case rel => exact ⟨h - 1, by omega, by omega, by rw [show h - 1 + 1 = h by omega]; exact HC, int_eq (by omega), rfl⟩
    · have z : (((e : Int) / 2 ^ h) == 0) = false := by rw [shr_cast]; simp only [beq_eq_false_iff_ne, ne_eq]; omega
      have hp1 : e / 2 ^ h = 1 := by
        have h1 := half_step e h
        rw [unhide HE] at h1
        omega
      have hba := below_alloc w2 (.cells #[.int .u8 0, .slice (some ⟨w.heap.size, 0, none⟩) la la] 74)
      have s3 : (w2.alloc (.cells #[.int .u8 0, .slice (some ⟨w.heap.size, 0, none⟩) la la] 74)).heap.size = w2.heap.size + 1 := by simp
      have P0 : Hid (Po w (w2.alloc (.cells #[.int .u8 0, .slice (some ⟨w.heap.size, 0, none⟩) la la] 74)) (val f la) e h f la (some ⟨w2.heap.size, 0, none⟩) 1 1 (fun _ => 0) (fun _ => val f la)) := {
        scr := sown_new w2 _ _ _ 0 (val f la) s2 (opx_push _ _ _ la la f (fun _ => ⟨_, 0, rfl, (unhide R2).keep hba⟩) hf (Nat.le_refl _) (by omega) hla (fun b o x o' x' e1 e2 => by
          injection e1 with e1; injection e1 with e1
          injection e2 with e2; injection e2 with e2
          omega) (lo_some (by omega)))
        pw := ⟨by omega, fun _ => by rw [hp1, Nat.pow_one]; exact one_push _⟩
        b := bA.trans (hba.mono (by omega))
        hM := by omega
        row := (unhide R2).keep hba }
      clear c1 hp1 HE R2 hba hmk hr
      go_wp2_with fail
      generalize (w2.alloc (.cells #[.int .u8 0, .slice (some ⟨w.heap.size, 0, none⟩) la la] 74)) = w3 at *
      go_loopg [7, 8] (h + 1) (fun gk sv iv wr => ∃ (t : Nat) (a' : Option Addr) (m cap : Nat) (ks vs : Nat → Nat), gk = t + 1 ∧ t ≤ h ∧ sv = .slice a' m cap ∧ ((t = 0 ∧ iv = .int .i64 (-1)) ∨ ∃ i : Nat, t = i + 1 ∧ iv = .int .i64 (i : Int)) ∧ m ≤ 1 + 3 * (h - t) ∧ Hid (Po w wr (val f la) e t f la a' m cap ks vs))
      case atStart => exact ⟨h, _, 1, 1, _, _, rfl, Nat.le_refl _, rfl, minus_one, by omega, P0⟩
      case round =>
        clear P0
        obtain ⟨t, a', m, cap, ks, vs, rfl, ht, rfl, hiv, hm, HP⟩ := hrel
        rcases hiv with ⟨rfl, rfl⟩ | ⟨i, rfl, rfl⟩
        · have HS := hide (unhide HP).scr.scr
          have HW := hide (unhide HP).pw.2
          have hb := (unhide HP).b
          go_wp2
          go_ret
          refine ⟨_, _, _, _, _, rfl, by omega, unhide HS, ?_, hb⟩
          have := unhide HW
          rw [Nat.pow_zero, Nat.div_one] at this
          exact this
        · obtain ⟨a1, cap1, w4, hr4, so4, hb4⟩ := (unhide HP).sqr (by omega)
          have s4 := hb4.size
          have hM := (unhide HP).hM
          have b16 := bit16 (k := i) he
          by_cases c2 : e / 2 ^ i % 2 = 0
          · have HP2 : Hid (Po w w4 (val f la) e i f la a1 (m + 1) cap1 (upd ks m 4) (upd vs m 0)) := ⟨so4, (unhide HP).pw.even 0 c2, (unhide HP).b.trans (hb4.mono (by omega)), by omega, (unhide HP).row.below hb4 (by omega)⟩
            have zb : (bits .and .u16 ((e : Int) / 2 ^ i) 1 != 0) = false := by rw [b16, c2]; rfl
            clear so4 c2 HP b16 hb4
            go_wp2_with (at_builtin; refine wpList_append_run rfl _ _ 43 rfl _ _ _ rfl rfl hr4 ?_)
            go_roundg (i + 1)
            case measure => omega
            case rel => exact ⟨i, a1, m + 1, cap1, _, _, rfl, by omega, rfl, minus_one, by omega, HP2⟩
          · obtain ⟨a5, cap5, w5, hr5, so5, hb5⟩ := po_mul so4 (by omega) ((unhide HP).row.below hb4 (by omega)) hf hla (by omega)
            have s5 := hb5.size
            have HP2 : Hid (Po w w5 (val f la) e i f la a5 (m + 3) cap5 (upd (upd (upd ks m 4) (m + 1) 0) (m + 2) 1) (upd (upd (upd vs m 0) (m + 1) (val f la)) (m + 2) 0)) := ⟨so5, (unhide HP).pw.odd 0 0 c2 (Nat.le_trans (dlen_val_le hf la) hla), (unhide HP).b.trans ((hb4.mono (by omega)).trans (hb5.mono (by omega))), by omega, ((unhide HP).row.below hb4 (by omega)).below hb5 (by omega)⟩
            have zb : (bits .and .u16 ((e : Int) / 2 ^ i) 1 != 0) = true := by
              rw [b16]
              simp only [bne_iff_ne, ne_eq]
              omega
            clear so4 so5 c2 HP b16 hb4 hb5
            go_wp2_with (at_builtin; first | refine wpList_append_run rfl _ _ 43 rfl _ _ _ rfl rfl hr4 ?_ | refine wpList_append_run rfl _ _ 43 rfl _ _ _ rfl rfl hr5 ?_)
            go_roundg (i + 1)
            case measure => omega
            case rel => exact ⟨i, a5, m + 3, cap5, _, _, rfl, by omega, rfl, minus_one, by omega, HP2⟩
end Go.Proofs.Ygctai
