/-
  calc: outcome.
-/
import Derived.Test.YgctaiQG
namespace Go.Proofs.Ygctai
open Go.RowKit
set_option linter.unusedVariables false
attribute [local go_sem ↓] Go.wp_at_zero Go.wp_at_succ

/-- The end: o goes to the result. -/
theorem oc_end {w wr : World} {M n k : Nat} {a o : Option Addr} {S : Nat → Nat} {ad : Nat → Option Addr} (h : OcI w wr M (.slice a n n) (.slice o k k)) (hp : Pcx wr (M + 2) a n S ad) (ho : Oup wr (M + 2) o k) :
    (((wr.setCell ⟨M, 0, none⟩ (.bool false)).setCell ⟨M, 1, none⟩ (.slice a n n)).setCell ⟨M, 2, none⟩ (.slice o k k)).rangeAt M 0 [.bool false, .slice a n n, .slice o k k] ∧
    (∃ ad, Pcx (((wr.setCell ⟨M, 0, none⟩ (.bool false)).setCell ⟨M, 1, none⟩ (.slice a n n)).setCell ⟨M, 2, none⟩ (.slice o k k)) M a n S ad) ∧
    Oup (((wr.setCell ⟨M, 0, none⟩ (.bool false)).setCell ⟨M, 1, none⟩ (.slice a n n)).setCell ⟨M, 2, none⟩ (.slice o k k)) M o k ∧
    Below M w (((wr.setCell ⟨M, 0, none⟩ (.bool false)).setCell ⟨M, 1, none⟩ (.slice a n n)).setCell ⟨M, 2, none⟩ (.slice o k k)) := by
  have r := ((h.r.setCell (i := 0) (by decide) (.bool false)).setCell (i := 1) (by decide) (.slice a n n)).setCell (i := 2) (by decide) (.slice o k k)
  have g0 := grew_set wr M 0 (.bool false)
  have g1 := grew_set (wr.setCell ⟨M, 0, none⟩ (.bool false)) M 1 (.slice a n n)
  have g2 := grew_set ((wr.setCell ⟨M, 0, none⟩ (.bool false)).setCell ⟨M, 1, none⟩ (.slice a n n)) M 2 (.slice o k k)
  refine ⟨range_row r _ ?_, ⟨ad, (((hp.grew g0 (by omega)).grew g1 (by omega)).grew g2 (by omega)).mono (by omega)⟩, (((ho.grew g0 (by omega)).grew g1 (by omega)).grew g2 (by omega)).mono (by omega), ((h.b.setCell (Nat.le_refl _) _).setCell (Nat.le_refl _) _).setCell (Nat.le_refl _) _⟩
  intro j v hj
  match j, hj with
  | 0, hj => injection hj with hj; exact ⟨by decide, by rw [← hj]; rfl⟩
  | 1, hj => injection hj with hj; exact ⟨by decide, by rw [← hj]; rfl⟩
  | 2, hj => injection hj with hj; exact ⟨by decide, by rw [← hj]; rfl⟩

/-- What was put out is copied. -/
theorem oc_out {w wr : World} {M k n : Nat} {s : Value} {a so : Option Addr} {S : Nat → Nat} {ad : Nat → Option Addr} {soc : Nat} (h : OcI w wr M s (.slice none 0 0)) (hp : Pcx wr (M + 2) a n S ad) (hk : 0 < k) (b : Nat) (c : Nat → Value)
    (hso : so = some ⟨b, 0, none⟩) (hb : b < M) (hr : Row wr b 0 k c) (hc : ∀ i, i < k → c i = .int .i8 (-2)) :
    ∃ w2, (Builtin.copy_ #[78, 78] 3 #[.slice (some ⟨wr.heap.size, 0, none⟩) k k, .slice so k soc]).run Taig.prog ((wr.setCell ⟨M + 1, 2, none⟩ (.slice (some ⟨wr.heap.size, 0, none⟩) k k)).alloc (made (.int .i8 0) k 46)).drew = .ok (.int .i64 k) w2 ∧
      OcI w w2 M s (.slice (some ⟨wr.heap.size, 0, none⟩) k k) ∧ Pcx w2 (M + 2) a n S ad ∧ Oup w2 (M + 2) (some ⟨wr.heap.size, 0, none⟩) k := by
  subst hso
  have hsz := h.size
  have h2 := h.set2 (.slice (some ⟨wr.heap.size, 0, none⟩) k k)
  have g1 := grew_set wr (M + 1) 2 (.slice (some ⟨wr.heap.size, 0, none⟩) k k)
  have p2 := hp.grew g1 (by omega)
  have hr2 := (hr.setOther (b' := M + 1) (o' := 2) (.inl (by omega)) (.slice (some ⟨wr.heap.size, 0, none⟩) k k)).congr (d := fun _ => .int .i8 (-2)) hc
  have hz : (wr.setCell ⟨M + 1, 2, none⟩ (.slice (some ⟨wr.heap.size, 0, none⟩) k k)).heap.size = wr.heap.size := by simp
  generalize wr.setCell ⟨M + 1, 2, none⟩ (.slice (some ⟨wr.heap.size, 0, none⟩) k k) = w1 at *
  have r0 := row_made w1 (.int .i8 0) k 46
  have f0 := free_made w1 (.int .i8 0) k 46
  rw [hz] at r0 f0
  have b1 := below_alloc w1 (made (.int .i8 0) k 46)
  have hz1 : (w1.alloc (made (.int .i8 0) k 46)).heap.size = w1.heap.size + 1 := by simp
  have p3 := p2.keep b1
  have hr3 := hr2.keep b1
  generalize w1.alloc (made (.int .i8 0) k 46) = w3 at *
  obtain ⟨w2, e, hw, r2⟩ := copy_run 78 78 3 46 Taig.underlying78 Taig.size46 w3.drew wr.heap.size 0 k k (some ⟨b, 0, none⟩) k soc (fun _ => .int .i8 (-2)) (fun _ => .int .i8 0) r0.drew f0.drew (fun _ => ⟨b, 0, rfl, hr3.drew⟩) (fun _ => rfl)
  rw [Nat.min_self] at e hw r2
  have hz3 : w3.drew.heap.size = w1.heap.size + 1 := hz1
  have bD : Below wr.heap.size w3 w2 := hw.below (Below.refl _ _).drew (Nat.le_refl _) (by omega)
  have bA : Below w1.heap.size w1 w2 := b1.trans (by rw [hz]; exact bD)
  refine ⟨w2, e, h2.next (bA.mono (by omega)), ?_, fun _ => ⟨_, rfl, by omega, r2.congr (fun i hi => by rw [if_pos hi])⟩⟩
  exact p2.keep bA
theorem oci_new2 (w : World) (s : Value) : OcI w ((w.alloc (.cells #[.bool false, .slice none 0 0, .slice none 0 0] 80)).alloc (.cells #[.bool false, s, .slice none 0 0] 80)) w.heap.size s (.slice none 0 0) := by
  have e3 : ∀ (t : Value) i, i < 3 → (#[.bool false, t, .slice none 0 0] : Array Value)[i]? = some (oc3 t (.slice none 0 0) i) := fun t i hi => by
    match i, hi with
    | 0, _ => rfl
    | 1, _ => rfl
    | 2, _ => rfl
  have r1 := row_new w _ 80 3 _ (e3 (.slice none 0 0))
  have r2 := row_new (w.alloc (.cells #[.bool false, .slice none 0 0, .slice none 0 0] 80)) _ 80 3 _ (e3 s)
  have f1 := free_new w #[.bool false, .slice none 0 0, .slice none 0 0] 80 3
  have f2 := free_new (w.alloc (.cells #[.bool false, .slice none 0 0, .slice none 0 0] 80)) #[.bool false, s, .slice none 0 0] 80 3
  have hs : (w.alloc (.cells #[.bool false, .slice none 0 0, .slice none 0 0] 80)).heap.size = w.heap.size + 1 := by simp
  rw [hs] at r2 f2
  exact ⟨((Below.refl _ _).alloc (Nat.le_refl _) _).alloc (by omega) _, r1.alloc _, f1.below (below_alloc _ _) (by omega), r2, f2⟩
--CUT--

set_option maxRecDepth 100000 in
set_option maxHeartbeats 1000000 in
theorem outcome_pz (B mb n : Nat) (S : Nat → Nat) (k : Nat) (w : World) (h : Mc w B mb ⟨n, S, k⟩) (h0 : 0 < n) (hk0 : k = 0) (hn : n ≤ 16) (hk : k ≤ 1024) (hl : ∀ i, i < n → dlen (S i) ≤ 1024) :
    Calls Taig.prog 98 #[.pointer (some ⟨mb, 0, none⟩)] w fun e w' => ∃ a o, e = .returned (.agg #[.bool false, .slice a n n, .slice o k k]) ∧ (∃ ad, Pcx w' w.heap.size a n S ad) ∧ Oup w' w.heap.size o k ∧ Below w.heap.size w w' := by
  subst hk0
  obtain ⟨a, cap, o, oc, ad, hx⟩ := h
  have h : Mcx w B w.heap.size mb n S 0 a cap o oc ad := hx
  clear hx
  have hm := h.hm
  have c0 := h.c0
  have c1 := h.c1
  skip
  obtain ⟨sb, cc, rfl, rr, hc, hcap⟩ := h.at h0
  have HX := hide h
  have HL := hide hl
  have RRR := hide rr
  have HC := hide hc
  clear rr hc hl h
  have I0 := oci_new w
  have b0 := I0.b
  have mk := make77 n (by omega) ((w.alloc (.cells #[.bool false, .slice none 0 0, .slice none 0 0] 80)).alloc (.cells #[.bool false, .slice none 0 0, .slice none 0 0] 80))
  have z0 : ((w.alloc (.cells #[.bool false, .slice none 0 0, .slice none 0 0] 80)).alloc (.cells #[.bool false, .slice none 0 0, .slice none 0 0] 80)).heap.size = w.heap.size + 2 := by simp
  have z1 : ((w.alloc (.cells #[.bool false, .slice none 0 0, .slice none 0 0] 80)).alloc (.cells #[.bool false, .slice (some ⟨w.heap.size + 2, 0, none⟩) n n, .slice none 0 0] 80)).heap.size = w.heap.size + 2 := by simp
  have d0 := (b0.cell hm).trans c0
  have q1 := I0.ro 1 (by decide)
  have fq := I0.fo.all (by decide) 1
  simp only [Nat.zero_add, oc3] at q1
  have S0 := ocs_new ((w.alloc (.cells #[.bool false, .slice none 0 0, .slice none 0 0] 80)).alloc (.cells #[.bool false, .slice (some ⟨w.heap.size + 2, 0, none⟩) n n, .slice none 0 0] 80)) n S ad
  rw [z1] at S0
  have I2 := (oci_new2 w (.slice (some ⟨w.heap.size + 2, 0, none⟩) n n)).next ((below_alloc _ (made (.slice none 0 0) n 22)).mono (by omega))
  have HS0 := hide S0
  have HI2 := hide I2
  clear S0 I2 I0 b0
  go_enter Taig.func98, Taig.ntmps98
  go_wp2_with fail
  clear d0 q1 fq mk
  generalize ((w.alloc (Obj.cells #[Value.bool false, Value.slice none 0 0, Value.slice none 0 0] 80)).alloc (Obj.cells #[Value.bool false, Value.slice (some ⟨w.heap.size + 2, 0, none⟩) n n, Value.slice none 0 0] 80)).alloc (made (Value.slice none 0 0) n 22) = w9 at *
  go_loopg [4] n (fun gk iv wr => ∃ (i : Nat) (ad' : Nat → Option Addr), gk = n - i ∧ i ≤ n ∧ iv = .int .i64 (i : Int) ∧ Hid (OcI w wr w.heap.size (.slice (some ⟨w.heap.size + 2, 0, none⟩) n n) (.slice none 0 0)) ∧ Hid (OcS wr (w.heap.size + 2) n i S ad'))
  case atStart => exact ⟨0, ad, rfl, Nat.zero_le _, rfl, HI2, HS0⟩
  case round =>
    clear HI2 HS0
    obtain ⟨i, ad', rfl, hi, rfl, HI, HS⟩ := hrel
    have hb := (unhide HI).b
    have e0 := (hb.cell hm).trans c0
    by_cases ci : i < n
    · have cs := (((unhide RRR).keep hb) i ci)
      rw [unhide HC i ci, Nat.zero_add] at cs
      have NI := hide (((unhide HX).en i ci).keep hb)
      have li := unhide HL i ci
      rcases Nat.eq_zero_or_pos (S i) with hz | hz
      · rw [(unhide NI).1 hz, hz, show dlen 0 = 0 from rfl] at cs
        have HS2 := hide ((unhide HS).skip hz)
        clear hz NI li
        go_wp2
        go_roundg (n - (i + 1))
        case measure => omega
        case rel => exact ⟨i + 1, _, rfl, by omega, rfl, HI, HS2⟩
      · have hd := dlen_pos hz
        have st := (unhide HS).step ci hz rfl (ad i)
        have sl := (unhide NI).sl
        have ne := fun (b o : Nat) (x : Option Nat) (e : ad i = some ⟨b, o, x⟩) => (unhide HX).le i ci b o x e
        have r1 := (unhide HI).ro 1 (by decide)
        simp only [Nat.zero_add, oc3] at r1
        have rT := (unhide HS).row i ci
        dsimp only at rT
        rw [Nat.zero_add, if_neg (Nat.lt_irrefl _)] at rT
        have fT := (unhide HS).fr.all h0 i
        have sz := (unhide HI).size
        have szT := (unhide HS).row.block_lt h0
        have HST := hide st
        clear st
        generalize hl : dlen (S i) = l at *
        have HLL := hide hl
        clear hl
        have mk2 := make22 l (by omega) wr.drew
        have hba := below_alloc wr (made (.int .u8 0) l 5)
        have r1' := ((hba.cell (World.block_lt_of_cell? _ _ r1)).trans r1)
        have rT' := ((hba.cell (World.block_lt_of_cell? _ _ rT)).trans rT)
        have fT' : (wr.alloc (made (.int .u8 0) l 5)).frozen? ⟨w.heap.size + 2, i, none⟩ = false := (hba.frozen (p := ⟨w.heap.size + 2, i, none⟩) szT).trans fT
        have i2 : (0 : Int) ≤ (i : Int) := by omega
        have i3 : (i : Int) < (n : Int) := by omega
        have hcm := World.setCell_alloc_past (w := wr) (made (.int .u8 0) l 5) (w.heap.size + 2) i (.slice (some ⟨wr.heap.size, 0, none⟩) l l) szT
        have bW : Below w.heap.size w ((wr.setCell ⟨w.heap.size + 2, i, none⟩ (.slice (some ⟨wr.heap.size, 0, none⟩) l l)).alloc (made (.int .u8 0) l 5)).drew := ((hb.setCell (Nat.le_add_right _ _) _).alloc (by simp; omega) _).drew
        rw [hcm] at HST
        have slW : Sl ((wr.setCell ⟨w.heap.size + 2, i, none⟩ (.slice (some ⟨wr.heap.size, 0, none⟩) l l)).alloc (made (.int .u8 0) l 5)).drew.drew (ad i) l (dig (S i)) := by
          have := (((unhide HX).en i ci).keep bW).sl
          rw [unhide HLL] at this
          exact this
        obtain ⟨w2, hrun, hos, hbT⟩ := unhide HST slW
        have e1 := (bW.cell hm).trans c0
        have cs1 := ((unhide RRR).keep bW) i ci
        rw [unhide HC i ci, Nat.zero_add, unhide HLL] at cs1
        have r3 : ((wr.setCell ⟨w.heap.size + 2, i, none⟩ (.slice (some ⟨wr.heap.size, 0, none⟩) l l)).alloc (made (.int .u8 0) l 5)).drew.cell? ⟨w.heap.size + 1, 1, none⟩ = some (.slice (some ⟨w.heap.size + 2, 0, none⟩) n n) := by
          have q := (((unhide HI).ro.setOther (b' := w.heap.size + 2) (o' := i) (.inl (by omega)) (.slice (some ⟨wr.heap.size, 0, none⟩) l l)).alloc (made (.int .u8 0) l 5)) 1 (by decide)
          rw [Nat.zero_add] at q
          exact q
        have r4 : ((wr.setCell ⟨w.heap.size + 2, i, none⟩ (.slice (some ⟨wr.heap.size, 0, none⟩) l l)).alloc (made (.int .u8 0) l 5)).drew.cell? ⟨w.heap.size + 2, i, none⟩ = some (.slice (some ⟨wr.heap.size, 0, none⟩) l l) := by
          have q := ((unhide HS).row.setCell (i := i) ci (.slice (some ⟨wr.heap.size, 0, none⟩) l l)).alloc (made (.int .u8 0) l 5) i ci
          rw [upd_at, Nat.zero_add] at q
          exact q
        have HI9 := hide ((unhide HI).next hbT)
        have HS9 := hide hos
        clear HST slW hos hbT bW hcm
        go_wp2
        go_region
        go_wp2
        go_region
        go_wp2
        go_roundg (n - (i + 1))
        case measure => omega
        case rel => exact ⟨i + 1, _, rfl, by omega, rfl, HI9, HS9⟩
    · obtain rfl : i = n := by omega
      have HP := hide (unhide HS).pcx
      clear ci hi
      have d1 := ((unhide HX).keep (unhide HI).b).c1
      have HO := hide (oup_nil wr (w.heap.size + 2))
      have RO := (unhide HI).ro
      have RR := (unhide HI).r
      have u0 := RO 0 (by decide)
      have u1 := RO 1 (by decide)
      have u2 := RO 2 (by decide)
      have v0 := RR 0 (by decide)
      have v1 := RR 1 (by decide)
      have v2 := RR 2 (by decide)
      have x0 := (unhide HI).fr.all (by decide) 0
      have x1 := (unhide HI).fr.all (by decide) 1
      have x2 := (unhide HI).fr.all (by decide) 2
      simp only [Nat.zero_add, oc3] at u0 u1 u2 v0 v1 v2
      clear RO RR
      go_wp2
      refine bodyPost_ret (results_cell_at rfl _ _ w.heap.size [.bool false, .slice (some ⟨w.heap.size + 2, 0, none⟩) i i, .slice none 0 0] _ rfl (oc_end (unhide HI) (unhide HP) (unhide HO)).1 Taig.underlying80 rfl (by rw [Taig.size80]; rfl)) rfl ?_
      exact ⟨_, _, rfl, (oc_end (unhide HI) (unhide HP) (unhide HO)).2⟩

set_option maxRecDepth 100000 in
set_option maxHeartbeats 1000000 in
theorem outcome_pp (B mb n : Nat) (S : Nat → Nat) (k : Nat) (w : World) (h : Mc w B mb ⟨n, S, k⟩) (h0 : 0 < n) (hk0 : 0 < k) (hn : n ≤ 16) (hk : k ≤ 1024) (hl : ∀ i, i < n → dlen (S i) ≤ 1024) :
    Calls Taig.prog 98 #[.pointer (some ⟨mb, 0, none⟩)] w fun e w' => ∃ a o, e = .returned (.agg #[.bool false, .slice a n n, .slice o k k]) ∧ (∃ ad, Pcx w' w.heap.size a n S ad) ∧ Oup w' w.heap.size o k ∧ Below w.heap.size w w' := by
  skip
  obtain ⟨a, cap, o, oc, ad, hx⟩ := h
  have h : Mcx w B w.heap.size mb n S k a cap o oc ad := hx
  clear hx
  have hm := h.hm
  have c0 := h.c0
  have c1 := h.c1
  obtain ⟨occ, oho, hoc⟩ := h.ot
  obtain ⟨ob, rfl, hobB, orow⟩ := oho.row hk0
  have hob := h.lo ob 0 none rfl
  have ROW := hide orow
  have HOC := hide hoc
  clear oho orow hoc
  obtain ⟨sb, cc, rfl, rr, hc, hcap⟩ := h.at h0
  have HX := hide h
  have HL := hide hl
  have RRR := hide rr
  have HC := hide hc
  clear rr hc hl h
  have I0 := oci_new w
  have b0 := I0.b
  have mk := make77 n (by omega) ((w.alloc (.cells #[.bool false, .slice none 0 0, .slice none 0 0] 80)).alloc (.cells #[.bool false, .slice none 0 0, .slice none 0 0] 80))
  have z0 : ((w.alloc (.cells #[.bool false, .slice none 0 0, .slice none 0 0] 80)).alloc (.cells #[.bool false, .slice none 0 0, .slice none 0 0] 80)).heap.size = w.heap.size + 2 := by simp
  have z1 : ((w.alloc (.cells #[.bool false, .slice none 0 0, .slice none 0 0] 80)).alloc (.cells #[.bool false, .slice (some ⟨w.heap.size + 2, 0, none⟩) n n, .slice none 0 0] 80)).heap.size = w.heap.size + 2 := by simp
  have d0 := (b0.cell hm).trans c0
  have q1 := I0.ro 1 (by decide)
  have fq := I0.fo.all (by decide) 1
  simp only [Nat.zero_add, oc3] at q1
  have S0 := ocs_new ((w.alloc (.cells #[.bool false, .slice none 0 0, .slice none 0 0] 80)).alloc (.cells #[.bool false, .slice (some ⟨w.heap.size + 2, 0, none⟩) n n, .slice none 0 0] 80)) n S ad
  rw [z1] at S0
  have I2 := (oci_new2 w (.slice (some ⟨w.heap.size + 2, 0, none⟩) n n)).next ((below_alloc _ (made (.slice none 0 0) n 22)).mono (by omega))
  have HS0 := hide S0
  have HI2 := hide I2
  clear S0 I2 I0 b0
  go_enter Taig.func98, Taig.ntmps98
  go_wp2_with fail
  clear d0 q1 fq mk
  generalize ((w.alloc (Obj.cells #[Value.bool false, Value.slice none 0 0, Value.slice none 0 0] 80)).alloc (Obj.cells #[Value.bool false, Value.slice (some ⟨w.heap.size + 2, 0, none⟩) n n, Value.slice none 0 0] 80)).alloc (made (Value.slice none 0 0) n 22) = w9 at *
  go_loopg [4] n (fun gk iv wr => ∃ (i : Nat) (ad' : Nat → Option Addr), gk = n - i ∧ i ≤ n ∧ iv = .int .i64 (i : Int) ∧ Hid (OcI w wr w.heap.size (.slice (some ⟨w.heap.size + 2, 0, none⟩) n n) (.slice none 0 0)) ∧ Hid (OcS wr (w.heap.size + 2) n i S ad'))
  case atStart => exact ⟨0, ad, rfl, Nat.zero_le _, rfl, HI2, HS0⟩
  case round =>
    clear HI2 HS0
    obtain ⟨i, ad', rfl, hi, rfl, HI, HS⟩ := hrel
    have hb := (unhide HI).b
    have e0 := (hb.cell hm).trans c0
    by_cases ci : i < n
    · have cs := (((unhide RRR).keep hb) i ci)
      rw [unhide HC i ci, Nat.zero_add] at cs
      have NI := hide (((unhide HX).en i ci).keep hb)
      have li := unhide HL i ci
      rcases Nat.eq_zero_or_pos (S i) with hz | hz
      · rw [(unhide NI).1 hz, hz, show dlen 0 = 0 from rfl] at cs
        have HS2 := hide ((unhide HS).skip hz)
        clear hz NI li
        go_wp2
        go_roundg (n - (i + 1))
        case measure => omega
        case rel => exact ⟨i + 1, _, rfl, by omega, rfl, HI, HS2⟩
      · have hd := dlen_pos hz
        have st := (unhide HS).step ci hz rfl (ad i)
        have sl := (unhide NI).sl
        have ne := fun (b o : Nat) (x : Option Nat) (e : ad i = some ⟨b, o, x⟩) => (unhide HX).le i ci b o x e
        have r1 := (unhide HI).ro 1 (by decide)
        simp only [Nat.zero_add, oc3] at r1
        have rT := (unhide HS).row i ci
        dsimp only at rT
        rw [Nat.zero_add, if_neg (Nat.lt_irrefl _)] at rT
        have fT := (unhide HS).fr.all h0 i
        have sz := (unhide HI).size
        have szT := (unhide HS).row.block_lt h0
        have HST := hide st
        clear st
        generalize hl : dlen (S i) = l at *
        have HLL := hide hl
        clear hl
        have mk2 := make22 l (by omega) wr.drew
        have hba := below_alloc wr (made (.int .u8 0) l 5)
        have r1' := ((hba.cell (World.block_lt_of_cell? _ _ r1)).trans r1)
        have rT' := ((hba.cell (World.block_lt_of_cell? _ _ rT)).trans rT)
        have fT' : (wr.alloc (made (.int .u8 0) l 5)).frozen? ⟨w.heap.size + 2, i, none⟩ = false := (hba.frozen (p := ⟨w.heap.size + 2, i, none⟩) szT).trans fT
        have i2 : (0 : Int) ≤ (i : Int) := by omega
        have i3 : (i : Int) < (n : Int) := by omega
        have hcm := World.setCell_alloc_past (w := wr) (made (.int .u8 0) l 5) (w.heap.size + 2) i (.slice (some ⟨wr.heap.size, 0, none⟩) l l) szT
        have bW : Below w.heap.size w ((wr.setCell ⟨w.heap.size + 2, i, none⟩ (.slice (some ⟨wr.heap.size, 0, none⟩) l l)).alloc (made (.int .u8 0) l 5)).drew := ((hb.setCell (Nat.le_add_right _ _) _).alloc (by simp; omega) _).drew
        rw [hcm] at HST
        have slW : Sl ((wr.setCell ⟨w.heap.size + 2, i, none⟩ (.slice (some ⟨wr.heap.size, 0, none⟩) l l)).alloc (made (.int .u8 0) l 5)).drew.drew (ad i) l (dig (S i)) := by
          have := (((unhide HX).en i ci).keep bW).sl
          rw [unhide HLL] at this
          exact this
        obtain ⟨w2, hrun, hos, hbT⟩ := unhide HST slW
        have e1 := (bW.cell hm).trans c0
        have cs1 := ((unhide RRR).keep bW) i ci
        rw [unhide HC i ci, Nat.zero_add, unhide HLL] at cs1
        have r3 : ((wr.setCell ⟨w.heap.size + 2, i, none⟩ (.slice (some ⟨wr.heap.size, 0, none⟩) l l)).alloc (made (.int .u8 0) l 5)).drew.cell? ⟨w.heap.size + 1, 1, none⟩ = some (.slice (some ⟨w.heap.size + 2, 0, none⟩) n n) := by
          have q := (((unhide HI).ro.setOther (b' := w.heap.size + 2) (o' := i) (.inl (by omega)) (.slice (some ⟨wr.heap.size, 0, none⟩) l l)).alloc (made (.int .u8 0) l 5)) 1 (by decide)
          rw [Nat.zero_add] at q
          exact q
        have r4 : ((wr.setCell ⟨w.heap.size + 2, i, none⟩ (.slice (some ⟨wr.heap.size, 0, none⟩) l l)).alloc (made (.int .u8 0) l 5)).drew.cell? ⟨w.heap.size + 2, i, none⟩ = some (.slice (some ⟨wr.heap.size, 0, none⟩) l l) := by
          have q := ((unhide HS).row.setCell (i := i) ci (.slice (some ⟨wr.heap.size, 0, none⟩) l l)).alloc (made (.int .u8 0) l 5) i ci
          rw [upd_at, Nat.zero_add] at q
          exact q
        have HI9 := hide ((unhide HI).next hbT)
        have HS9 := hide hos
        clear HST slW hos hbT bW hcm
        go_wp2
        go_region
        go_wp2
        go_region
        go_wp2
        go_roundg (n - (i + 1))
        case measure => omega
        case rel => exact ⟨i + 1, _, rfl, by omega, rfl, HI9, HS9⟩
    · obtain rfl : i = n := by omega
      have HP := hide (unhide HS).pcx
      clear ci hi
      have u2 := (unhide HI).ro 2 (by decide)
      have y2 := (unhide HI).fo.all (by decide) 2
      have d1 := ((unhide HX).keep (unhide HI).b).c1
      have hmk := make78 k (by omega) wr
      simp only [Nat.zero_add, oc3] at u2
      obtain ⟨w2, hr, hi2, hp2, ho2⟩ := oc_out (soc := oc) (unhide HI) (unhide HP) hk0 ob occ rfl hob ((unhide ROW).keep (unhide HI).b) (unhide HOC)
      have sz := (unhide HI).size
      have b1 : Below w.heap.size w ((wr.setCell ⟨w.heap.size + 1, 2, none⟩ (.slice (some ⟨wr.heap.size, 0, none⟩) k k)).alloc (made (.int .i8 0) k 46)) := ((unhide HI).b.setCell (Nat.le_succ _) _).alloc (by simp; omega) _
      have d2 := ((unhide HX).keep b1).c1
      have u3 : ((wr.setCell ⟨w.heap.size + 1, 2, none⟩ (.slice (some ⟨wr.heap.size, 0, none⟩) k k)).alloc (made (.int .i8 0) k 46)).cell? ⟨w.heap.size + 1, 2, none⟩ = some (.slice (some ⟨wr.heap.size, 0, none⟩) k k) := by
        have q := (((unhide HI).set2 (.slice (some ⟨wr.heap.size, 0, none⟩) k k)).ro.alloc (made (.int .i8 0) k 46)) 2 (by decide)
        rw [Nat.zero_add] at q
        exact q
      have hba := below_alloc wr (made (.int .i8 0) k 46)
      have hlt : w.heap.size + 1 < wr.heap.size := by omega
      have u2' := (hba.cell (World.block_lt_of_cell? _ _ u2)).trans u2
      have y2' : (wr.alloc (made (.int .i8 0) k 46)).frozen? ⟨w.heap.size + 1, 2, none⟩ = false := (hba.frozen (p := ⟨w.heap.size + 1, 2, none⟩) hlt).trans y2
      go_wp2
      go_region
      clear u2 y2 d1 hmk d2 u3 hba u2' y2'
      have HI' := hide hi2
      have HP' := hide hp2
      have HO := hide ho2
      clear hi2 hp2 ho2 HI HP
      have HI := HI'
      have HP := HP'
      have RO := (unhide HI).ro
      have RR := (unhide HI).r
      have u0 := RO 0 (by decide)
      have u1 := RO 1 (by decide)
      have u2 := RO 2 (by decide)
      have v0 := RR 0 (by decide)
      have v1 := RR 1 (by decide)
      have v2 := RR 2 (by decide)
      have x0 := (unhide HI).fr.all (by decide) 0
      have x1 := (unhide HI).fr.all (by decide) 1
      have x2 := (unhide HI).fr.all (by decide) 2
      simp only [Nat.zero_add, oc3] at u0 u1 u2 v0 v1 v2
      clear RO RR
      go_wp2
      refine bodyPost_ret (results_cell_at rfl _ _ w.heap.size [.bool false, .slice (some ⟨w.heap.size + 2, 0, none⟩) i i, .slice (some ⟨wr.heap.size, 0, none⟩) k k] _ rfl (oc_end (unhide HI) (unhide HP) (unhide HO)).1 Taig.underlying80 rfl (by rw [Taig.size80]; rfl)) rfl ?_
      exact ⟨_, _, rfl, (oc_end (unhide HI) (unhide HP) (unhide HO)).2⟩

set_option maxRecDepth 100000 in
set_option maxHeartbeats 1000000 in
theorem outcome_zz (B mb : Nat) (S : Nat → Nat) (k : Nat) (w : World) (h : Mc w B mb ⟨0, S, k⟩) (hk0 : k = 0) (hk : k ≤ 1024) :
    Calls Taig.prog 98 #[.pointer (some ⟨mb, 0, none⟩)] w fun e w' => ∃ a o, e = .returned (.agg #[.bool false, .slice a 0 0, .slice o k k]) ∧ (∃ ad, Pcx w' w.heap.size a 0 S ad) ∧ Oup w' w.heap.size o k ∧ Below w.heap.size w w' := by
  subst hk0
  obtain ⟨a, cap, o, oc, ad, hx⟩ := h
  have h : Mcx w B w.heap.size mb 0 S 0 a cap o oc ad := hx
  clear hx
  have hm := h.hm
  have c0 := h.c0
  have c1 := h.c1
  skip
  have HX := hide h
  clear h
  have I0 := oci_new w
  have d0 := (I0.b.cell hm).trans c0
  have HI2 := hide I0
  clear I0
  go_enter Taig.func98, Taig.ntmps98
  go_wp2_with fail
  clear d0
  generalize ((w.alloc (Obj.cells #[Value.bool false, Value.slice none 0 0, Value.slice none 0 0] 80)).alloc (Obj.cells #[Value.bool false, Value.slice none 0 0, Value.slice none 0 0] 80)) = w9 at *
  go_loopg [4] 1 (fun gk iv wr => gk = 1 ∧ iv = .int .i64 0 ∧ Hid (OcI w wr w.heap.size (.slice none 0 0) (.slice none 0 0)))
  case atStart => exact ⟨rfl, rfl, HI2⟩
  case round =>
    clear HI2
    obtain ⟨rfl, rfl, HI⟩ := hrel
    have hb := (unhide HI).b
    have e0 := (hb.cell hm).trans c0
    have HP := hide (pcx_nil wr (w.heap.size + 2) S ad)
    have d1 := ((unhide HX).keep (unhide HI).b).c1
    have HO := hide (oup_nil wr (w.heap.size + 2))
    have RO := (unhide HI).ro
    have RR := (unhide HI).r
    have u0 := RO 0 (by decide)
    have u1 := RO 1 (by decide)
    have u2 := RO 2 (by decide)
    have v0 := RR 0 (by decide)
    have v1 := RR 1 (by decide)
    have v2 := RR 2 (by decide)
    have x0 := (unhide HI).fr.all (by decide) 0
    have x1 := (unhide HI).fr.all (by decide) 1
    have x2 := (unhide HI).fr.all (by decide) 2
    simp only [Nat.zero_add, oc3] at u0 u1 u2 v0 v1 v2
    clear RO RR
    go_wp2
    refine bodyPost_ret (results_cell_at rfl _ _ w.heap.size [.bool false, .slice none 0 0, .slice none 0 0] _ rfl (oc_end (unhide HI) (unhide HP) (unhide HO)).1 Taig.underlying80 rfl (by rw [Taig.size80]; rfl)) rfl ?_
    exact ⟨_, _, rfl, (oc_end (unhide HI) (unhide HP) (unhide HO)).2⟩

set_option maxRecDepth 100000 in
set_option maxHeartbeats 1000000 in
theorem outcome_zp (B mb : Nat) (S : Nat → Nat) (k : Nat) (w : World) (h : Mc w B mb ⟨0, S, k⟩) (hk0 : 0 < k) (hk : k ≤ 1024) :
    Calls Taig.prog 98 #[.pointer (some ⟨mb, 0, none⟩)] w fun e w' => ∃ a o, e = .returned (.agg #[.bool false, .slice a 0 0, .slice o k k]) ∧ (∃ ad, Pcx w' w.heap.size a 0 S ad) ∧ Oup w' w.heap.size o k ∧ Below w.heap.size w w' := by
  skip
  obtain ⟨a, cap, o, oc, ad, hx⟩ := h
  have h : Mcx w B w.heap.size mb 0 S k a cap o oc ad := hx
  clear hx
  have hm := h.hm
  have c0 := h.c0
  have c1 := h.c1
  obtain ⟨occ, oho, hoc⟩ := h.ot
  obtain ⟨ob, rfl, hobB, orow⟩ := oho.row hk0
  have hob := h.lo ob 0 none rfl
  have ROW := hide orow
  have HOC := hide hoc
  clear oho orow hoc
  have HX := hide h
  clear h
  have I0 := oci_new w
  have d0 := (I0.b.cell hm).trans c0
  have HI2 := hide I0
  clear I0
  go_enter Taig.func98, Taig.ntmps98
  go_wp2_with fail
  clear d0
  generalize ((w.alloc (Obj.cells #[Value.bool false, Value.slice none 0 0, Value.slice none 0 0] 80)).alloc (Obj.cells #[Value.bool false, Value.slice none 0 0, Value.slice none 0 0] 80)) = w9 at *
  go_loopg [4] 1 (fun gk iv wr => gk = 1 ∧ iv = .int .i64 0 ∧ Hid (OcI w wr w.heap.size (.slice none 0 0) (.slice none 0 0)))
  case atStart => exact ⟨rfl, rfl, HI2⟩
  case round =>
    clear HI2
    obtain ⟨rfl, rfl, HI⟩ := hrel
    have hb := (unhide HI).b
    have e0 := (hb.cell hm).trans c0
    have HP := hide (pcx_nil wr (w.heap.size + 2) S ad)
    have u2 := (unhide HI).ro 2 (by decide)
    have y2 := (unhide HI).fo.all (by decide) 2
    have d1 := ((unhide HX).keep (unhide HI).b).c1
    have hmk := make78 k (by omega) wr
    simp only [Nat.zero_add, oc3] at u2
    obtain ⟨w2, hr, hi2, hp2, ho2⟩ := oc_out (soc := oc) (unhide HI) (unhide HP) hk0 ob occ rfl hob ((unhide ROW).keep (unhide HI).b) (unhide HOC)
    have sz := (unhide HI).size
    have b1 : Below w.heap.size w ((wr.setCell ⟨w.heap.size + 1, 2, none⟩ (.slice (some ⟨wr.heap.size, 0, none⟩) k k)).alloc (made (.int .i8 0) k 46)) := ((unhide HI).b.setCell (Nat.le_succ _) _).alloc (by simp; omega) _
    have d2 := ((unhide HX).keep b1).c1
    have u3 : ((wr.setCell ⟨w.heap.size + 1, 2, none⟩ (.slice (some ⟨wr.heap.size, 0, none⟩) k k)).alloc (made (.int .i8 0) k 46)).cell? ⟨w.heap.size + 1, 2, none⟩ = some (.slice (some ⟨wr.heap.size, 0, none⟩) k k) := by
      have q := (((unhide HI).set2 (.slice (some ⟨wr.heap.size, 0, none⟩) k k)).ro.alloc (made (.int .i8 0) k 46)) 2 (by decide)
      rw [Nat.zero_add] at q
      exact q
    have hba := below_alloc wr (made (.int .i8 0) k 46)
    have hlt : w.heap.size + 1 < wr.heap.size := by omega
    have u2' := (hba.cell (World.block_lt_of_cell? _ _ u2)).trans u2
    have y2' : (wr.alloc (made (.int .i8 0) k 46)).frozen? ⟨w.heap.size + 1, 2, none⟩ = false := (hba.frozen (p := ⟨w.heap.size + 1, 2, none⟩) hlt).trans y2
    go_wp2
    go_region
    clear u2 y2 d1 hmk d2 u3 hba u2' y2'
    have HI' := hide hi2
    have HP' := hide hp2
    have HO := hide ho2
    clear hi2 hp2 ho2 HI HP
    have HI := HI'
    have HP := HP'
    have RO := (unhide HI).ro
    have RR := (unhide HI).r
    have u0 := RO 0 (by decide)
    have u1 := RO 1 (by decide)
    have u2 := RO 2 (by decide)
    have v0 := RR 0 (by decide)
    have v1 := RR 1 (by decide)
    have v2 := RR 2 (by decide)
    have x0 := (unhide HI).fr.all (by decide) 0
    have x1 := (unhide HI).fr.all (by decide) 1
    have x2 := (unhide HI).fr.all (by decide) 2
    simp only [Nat.zero_add, oc3] at u0 u1 u2 v0 v1 v2
    clear RO RR
    go_wp2
    refine bodyPost_ret (results_cell_at rfl _ _ w.heap.size [.bool false, .slice none 0 0, .slice (some ⟨wr.heap.size, 0, none⟩) k k] _ rfl (oc_end (unhide HI) (unhide HP) (unhide HO)).1 Taig.underlying80 rfl (by rw [Taig.size80]; rfl)) rfl ?_
    exact ⟨_, _, rfl, (oc_end (unhide HI) (unhide HP) (unhide HO)).2⟩

/-- outcome. -/
theorem outcome_any (B mb n : Nat) (S : Nat → Nat) (k : Nat) (w : World) (h : Mc w B mb ⟨n, S, k⟩) (hn : n ≤ 16) (hk : k ≤ 1024) (hl : ∀ i, i < n → dlen (S i) ≤ 1024) :
    Calls Taig.prog 98 #[.pointer (some ⟨mb, 0, none⟩)] w fun e w' => ∃ a o, e = .returned (.agg #[.bool false, .slice a n n, .slice o k k]) ∧ (∃ ad, Pcx w' w.heap.size a n S ad) ∧ Oup w' w.heap.size o k ∧ Below w.heap.size w w' := by
  rcases Nat.eq_zero_or_pos n with rfl | h0
  · rcases Nat.eq_zero_or_pos k with hk0 | hk0
    · exact outcome_zz B mb S k w h hk0 hk
    · exact outcome_zp B mb S k w h hk0 hk
  · rcases Nat.eq_zero_or_pos k with hk0 | hk0
    · exact outcome_pz B mb n S k w h h0 hk0 hn hk hl
    · exact outcome_pp B mb n S k w h h0 hk0 hn hk hl
end Go.Proofs.Ygctai
