/-
  nlong.newDivisor.
-/
import Derived.Test.YgctaiLD2
import Derived.Laws.Rows
namespace Go.Proofs.Ygctai
open Go.RowKit
set_option linter.unusedVariables false
attribute [local go_sem ↓] Go.wp_at_zero Go.wp_at_succ

/-- The sizes. -/
def sz (p i : Nat) : Nat := 4 + (p - 4) / 2 ^ i
theorem sz_zero {p : Nat} (h : 4 ≤ p) : sz p 0 = p := by unfold sz; rw [Nat.pow_zero, Nat.div_one]; omega
theorem sz_succ (p i : Nat) : sz p (i + 1) = (sz p i + 4) / 2 := by
  unfold sz; rw [Nat.pow_succ, ← Nat.div_div_eq_div_mul]; omega
theorem sz_le (p i : Nat) (h : 4 ≤ p) : sz p i ≤ p := by unfold sz; have := Nat.div_le_self (p - 4) (2 ^ i); omega
theorem sz_ge (p i : Nat) : 4 ≤ sz p i := by unfold sz; exact Nat.le_add_right _ _
theorem sz_13 {p : Nat} (h : p ≤ 5000) : sz p 13 = 4 := by
  unfold sz
  have h1 : (2 : Nat) ^ 13 = 8192 := by decide
  rw [h1, Nat.div_eq_of_lt (by omega)]
theorem quo64l (V : Nat) : IntKind.u64.wrap ((18446744073709551615 : Int).tdiv (V : Int)) = ((18446744073709551615 / V : Nat) : Int) := by
  rw [Int.tdiv_eq_ediv_of_nonneg (by decide)]
  have h1 : (18446744073709551615 : Int) / (V : Int) = ((18446744073709551615 / V : Nat) : Int) := rfl
  have h2 : 18446744073709551615 / V ≤ 18446744073709551615 := Nat.div_le_self _ _
  rw [h1, IntKind.wrap_u64]
  generalize 18446744073709551615 / V = q at *
  omega
/-- A fresh divisor. -/
def nd4 : Array Value := #[.slice none 0 0, .slice none 0 0, .int .i64 0, .int .i64 0]
/-- 64 zeros. -/
def z64i : Array Value := Array.replicate 64 (.int .i64 0)
theorem z64i_at (i : Nat) (hi : i < 64) : z64i[i]? = some (lng (fun _ => 0) i) := by unfold z64i; simp [hi, lng]
/-- A divisor's value. -/
def dvs (b x : Option Addr) (D X p s : Nat) : Value := .agg #[.slice b (dlen D) (dlen D), .slice x (dlen X) (dlen X), .int .i64 p, .int .i64 s]
theorem Taig.size85 : (Taig.prog.info? 85).map (·.size) = some 4 := by kernel_rfl

set_option maxRecDepth 100000 in
set_option maxHeartbeats 1000000 in
/-- nlong.newDivisor. -/
theorem newDivisor_any (b : Option Addr) (D s p : Nat) (w : World) (hb : Nt w 0 b D) (hD : 0 < D) (hl : dlen D ≤ 5000) (hs : s ≤ 4900) (hp : Hid (p = max 4 (s + 2))) :
    Calls Taig.prog 72 #[.slice b (dlen D) (dlen D), .int .i64 s] w fun e w' => ∃ x X, e = .returned (dvs b x D X p s) ∧ Nt w' 0 x X ∧ Rl D p X ∧ Below w.heap.size w w' := by
  have hp4 : 4 ≤ p := by have := unhide hp; omega
  have hp5 : p ≤ 5000 := by have := unhide hp; omega
  have hps : p ≤ s + 4 := by have := unhide hp; omega
  have hb0 := below_alloc w (.cells nd4 85)
  have hh0 : (w.alloc (.cells nd4 85)).heap[w.heap.size]? = some (.cells nd4 85 (0, 0)) := heap_alloc_new _ _
  have hsz0 : (w.alloc (.cells nd4 85)).heap.size = w.heap.size + 1 := by simp
  go_enter Taig.func72, Taig.ntmps72
  go_upto_if 14 with fail
  change Code.wp _ _ _ _ (w.alloc (.cells nd4 85))
  generalize w.alloc (.cells nd4 85) = w1 at *
  go_cut [5] (fun pv wc => pv = .int .i64 p ∧ w1 = wc)
  case first =>
    by_cases h : s + 2 < 4
    · go_wp2
      go_meet
      case rel => exact ⟨int_eq (by have := unhide hp; omega), rfl⟩
    · go_wp2
      go_meet
      case rel => exact ⟨int_eq (by have := unhide hp; omega), rfl⟩
  case rest =>
    obtain ⟨rfl, rfl⟩ := hcut
    have hr1 : Row (w1.alloc (.cells z64i 87)) w1.heap.size 0 64 (lng fun _ => 0) := row_new _ _ _ _ _ z64i_at
    have hf1 : Free (w1.alloc (.cells z64i 87)) w1.heap.size 0 64 := free_new _ _ _ _
    have hb1 := below_alloc w1 (.cells z64i 87)
    go_wp2
    change Code.wp _ _ _ _ (w1.alloc (.cells z64i 87))
    generalize w1.alloc (.cells z64i 87) = w2 at *
    have HS0 := hide hsz0
    have hsz1 := hb1.size
    rw [hsz0] at hr1 hf1 hb1
    clear hsz0
    obtain ⟨bs, hbs⟩ : ∃ bs, Hid (w.heap.size + 1 = bs) := ⟨_, hide rfl⟩
    rw [unhide hbs] at hr1 hf1 hb1 ⊢
    have hbs1 : w.heap.size < bs := by have := unhide hbs; omega
    go_loopg [7, 8] 13 (fun gk nv av wr => ∃ (n at' : Nat) (f : Nat → Nat), gk = 13 - n ∧ n ≤ 13 ∧ nv = .int .i64 n ∧ av = .int .i64 at' ∧ Hid (at' = sz p n) ∧ 4 ≤ at' ∧ at' ≤ 5000 ∧ Hid (∀ i, i < n → f i = sz p i) ∧ Row wr bs 0 64 (lng f) ∧ Free wr bs 0 64 ∧ Below bs w1 wr)
    case atStart => exact ⟨0, p, _, rfl, by omega, rfl, rfl, (sz_zero hp4).symm, hp4, hp5, fun i h => absurd h (by omega), hr1, hf1, hb1⟩
    case round =>
      clear hr1 hf1 hb1
      obtain ⟨n, at', f, rfl, hn, rfl, rfl, hat, ha4, ha5, hfs, hr1, hf1, hb1⟩ := hrel
      by_cases hlt : 4 < at'
      · have hn13 : n < 13 := by
          rcases Nat.lt_or_ge n 13 with h | h
          · exact h
          · obtain rfl : n = 13 := by omega
            rw [unhide hat, sz_13 hp5] at hlt; omega
        have c1 := hr1.cell (i := n) (by omega)
        have f1 := hf1 n (by omega)
        rw [Nat.zero_add] at c1 f1
        simp only [lng_at] at c1
        go_wp2
        go_roundg (13 - (n + 1))
        case measure => omega
        case rel => exact ⟨n + 1, (at' + 4) / 2, upd f n at', rfl, by omega, by go_num, int_eq (by omega), by unfold Hid; rw [sz_succ, unhide hat], by omega, by omega, fun i hi => by
          by_cases e : i = n
          · subst e; rw [upd_at]; exact unhide hat
          · rw [upd_ne _ _ e]; exact unhide hfs i (by omega), hr1.lput n at' (by omega) (by omega) rfl, hf1.setCell _ _, hb1.setCell (Nat.le_refl _) _⟩
      · have hat4 : Hid (sz p n = 4) := by unfold Hid; rw [← unhide hat]; omega
        have hsz2 := hb1.size
        have hw1s : w1.heap.size = bs := by rw [unhide HS0, unhide hbs]
        have hB : Below w1.heap.size w1 wr := by rw [hw1s]; exact hb1
        have hbw : bs ≤ wr.heap.size := by omega
        clear hw1s
        have KL := hide (nlLead_any b D 4 wr ((hb.keep hb0).keep hB) hD (by omega) (by omega))
        go_wp2_with fail
        refine (unhide KL).mono ?_
        rintro e w3 ⟨c3, rfl, n3, hb3⟩
        have l3 := ld_len (k := 4) hD
        have HX0 : Hid (Rl D 4 (18446744073709551615 / ld D 4)) := rl_start hD rfl
        have hV0 : ((ld D 4 : Int) == 0) = false := by have := ld_ge (k := 4) hD (by decide); have := pow256_pos (4 - 1); simp; omega
        have hV1 : 0 < ld D 4 := by have := ld_ge (k := 4) hD (by decide); have := pow256_pos (4 - 1); omega
        have hV2 : ¬ ((ld D 4 : Int) = 0) := by omega
        have hV3 : ¬ (ld D 4 = 0) := by omega
        have hQ := quo64l (ld D 4)
        have KV := hide (nlValue_any c3 (ld D 4) w3 n3.sl (by omega))
        have hX64 : Hid (18446744073709551615 / ld D 4 < 18446744073709551616) := Nat.lt_of_le_of_lt (Nat.div_le_self _ _) (by decide)
        clear l3
        generalize 18446744073709551615 / ld D 4 = X0 at *
        generalize ld D 4 = V at *
        go_wp2_with fail
        refine (unhide KV).mono ?_
        rintro e w' ⟨rfl, rfl⟩
        have KS := hide (nlSmall_any X0 (unhide hX64) w3)
        go_wp2_with fail
        refine (unhide KS).mono ?_
        rintro e w4 ⟨c4, rfl, n4, hb4⟩
        clear hV0 hV1 hV2 hV3 hQ KV KS KL
        have s3 := hb3.size
        have s4 := hb4.size
        have hb5 : Below bs w1 w4 := (hb1.trans (hb3.mono (by omega))).trans (hb4.mono (by omega))
        have r5 : Row w4 bs 0 64 (lng f) := (hr1.keep hb3).keep hb4
        go_wp2
        go_loopg [7, 9, 10] n (fun gj nv xv hv wr => ∃ (j H X : Nat) (c : Option Addr), j = gj ∧ j ≤ n ∧ nv = .int .i64 ((j : Int) - 1) ∧ xv = .slice c (dlen X) (dlen X) ∧ hv = .int .i64 H ∧ Hid (H = sz p j) ∧ H ≤ 5000 ∧ Nt wr 0 c X ∧ Hid (Rl D H X) ∧ Row wr bs 0 64 (lng f) ∧ Below bs w1 wr)
        case atStart => exact ⟨n, 4, X0, c4, rfl, Nat.le_refl _, by go_num, rfl, rfl, by unfold Hid; exact (unhide hat4).symm, by omega, n4.mono (Nat.zero_le _), HX0, r5, hb5⟩
        case round =>
          clear r5 hb5 n4 hb4 hb3 n3 hr1 hb1 hB
          obtain ⟨j, H, X, c, rfl, hj, rfl, rfl, rfl, hH, hH5, nx, hRl, r5, hb5⟩ := hrel
          by_cases hj0 : 0 < j
          · obtain ⟨i, rfl⟩ : ∃ i, j = i + 1 := ⟨j - 1, by omega⟩
            have hI : ((i + 1 : Nat) : Int) - 1 = (i : Int) := by omega
            rw [hI]
            clear hI
            obtain ⟨P, hP⟩ : ∃ P, Hid (sz p i = P) := ⟨_, rfl⟩
            have hfi : f i = P := by rw [unhide hfs i (by omega), unhide hP]
            have c1 := r5.cell (i := i) (by omega)
            rw [Nat.zero_add, lng_at, hfi] at c1
            clear hfi
            have hP5 : P ≤ 5000 := by rw [← unhide hP]; exact Nat.le_trans (sz_le p i hp4) hp5
            have hHP : H ≤ P := by rw [unhide hH, sz_succ, unhide hP]; have := sz_ge p i; rw [unhide hP] at this; omega
            have hH4 : 4 ≤ H := by rw [unhide hH]; exact sz_ge _ _
            obtain ⟨k, hk⟩ : ∃ k, Hid (P - H = k) := ⟨_, rfl⟩
            have hkI : (P : Int) - (H : Int) = (k : Int) := by have := unhide hk; omega
            have hkI2 : IntKind.i64.wrap (k : Int) = (k : Int) := by rw [IntKind.wrap_i64]; have := unhide hk; omega
            have hkP : k ≤ P := by have := unhide hk; omega
            have hs5 := hb5.size
            have hw1s : w1.heap.size = bs := by rw [unhide HS0, unhide hbs]
            have hB5 : Below w1.heap.size w1 wr := by rw [hw1s]; exact hb5
            have hbw2 : bs ≤ wr.heap.size := by omega
            clear hw1s
            have KL := hide (nlLead_any b D P wr.drew ((hb.keep hb0).keep hB5).drew hD (by omega) (by omega))
            have KR : Hid (∀ wx d, Nt wx 0 d (ld D P) → Nt wx 0 c X → Calls Taig.prog 100 #[.slice d (dlen (ld D P)) (dlen (ld D P)), .slice c (dlen X) (dlen X), .int .i64 P, .int .i64 k] wx fun e w' => ∃ c Z, e = .returned (.slice c (dlen Z) (dlen Z)) ∧ Nt w' wx.heap.size c Z ∧ Rl D P Z ∧ Below wx.heap.size wx w') := fun wx d h1 h2 => refine_any d c D X P k H wx h1 h2 hD (by unfold Hid; have := unhide hk; omega) hH4 hP5 hkP (unhide hRl)
            have hbl := r5.block_lt (by omega)
            have HC : Hid (∀ wa wb : World, wa.heap.size = wr.heap.size → (∀ a, wa.cell? a = wr.cell? a) → Below wa.heap.size wa wb → wb.cell? ⟨bs, i, none⟩ = some (.int .i64 (P : Int))) := by
              intro wa wb hs hc h1
              rw [h1.cell (by show bs < _; omega), hc]
              exact c1
            go_wp2
            go_region_with (first | (go_at_call 99; refine (unhide KL).mono ?_; rintro e w' ⟨d6, rfl, n6, hb6⟩; have z1 := unhide HC wr.drew _ rfl (fun _ => rfl) hb6) | (go_at_call 100; refine (unhide KR _ _ (n6.mono (Nat.zero_le _)) (nx.drew.keep hb6)).mono ?_; rintro e w7 ⟨c7, Z, rfl, n7, hZ, hb7⟩))
            all_goals
              have HZ := hide hZ
              clear hZ
              have s6 := hb6.size
              have s7 := hb7.size
              have r7 : Row w7 bs 0 64 (lng f) := (r5.drew.keep hb6).keep hb7
              have z2 := r7.cell (i := i) (by omega)
              rw [Nat.zero_add, lng_at, unhide hfs i (by omega), unhide hP] at z2
              have hb8 : Below bs w1 w7 := (hb5.drew.trans (hb6.mono (by show bs ≤ wr.heap.size; omega))).trans (hb7.mono (Nat.le_trans (show bs ≤ wr.heap.size by omega) s6))
              go_wp2
              go_roundg i
              case measure => omega
              case rel => exact ⟨i, P, Z, c7, rfl, by omega, by go_num, rfl, rfl, by unfold Hid; exact (unhide hP).symm, hP5, n7.mono (Nat.zero_le _), HZ, r7, hb8⟩
          · obtain rfl : j = 0 := by omega
            have hRp : Hid (Rl D p X) := by
              have h1 := unhide hH
              rw [sz_zero hp4] at h1
              rw [← h1]; exact unhide hRl
            have h85 : wr.heap[w.heap.size]? = some (.cells nd4 85 (0, 0)) := by rw [hb5.block _ hbs1]; exact hh0
            have hcell : ∀ i, wr.cell? ⟨w.heap.size, i, none⟩ = nd4[i]? := fun i => by unfold World.cell?; simp only [h85]; rfl
            have hfrz : ∀ i, wr.frozen? ⟨w.heap.size, i, none⟩ = false := fun i => by unfold World.frozen?; simp only [h85]; simp
            have d0 : wr.cell? ⟨w.heap.size, 0, none⟩ = some (.slice none 0 0) := (hcell 0).trans rfl
            have d1 : wr.cell? ⟨w.heap.size, 1, none⟩ = some (.slice none 0 0) := (hcell 1).trans rfl
            have d2 : wr.cell? ⟨w.heap.size, 2, none⟩ = some (.int .i64 0) := (hcell 2).trans rfl
            have d3 : wr.cell? ⟨w.heap.size, 3, none⟩ = some (.int .i64 0) := (hcell 3).trans rfl
            clear hcell
            have g0 := heap_setCell_same wr w.heap.size 0 nd4 85 (.slice b (dlen D) (dlen D)) h85
            have g1 := heap_setCell_same _ w.heap.size 1 _ 85 (.slice c (dlen X) (dlen X)) g0
            have g2 := heap_setCell_same _ w.heap.size 2 _ 85 (.int .i64 (p : Int)) g1
            have g3 := heap_setCell_same _ w.heap.size 3 _ 85 (.int .i64 (s : Int)) g2
            have n9 : ∀ w9, Below w.heap.size wr w9 → True := fun _ _ => trivial
            have hbA : Below w.heap.size w wr := hb0.trans (hb5.mono (by omega))
            have ntx : Nt ((((wr.setCell ⟨w.heap.size, 0, none⟩ (.slice b (dlen D) (dlen D))).setCell ⟨w.heap.size, 1, none⟩ (.slice c (dlen X) (dlen X))).setCell ⟨w.heap.size, 2, none⟩ (.int .i64 (p : Int))).setCell ⟨w.heap.size, 3, none⟩ (.int .i64 (s : Int))) 0 c X := by
              have hwr : Wr w.heap.size 0 4 wr ((((wr.setCell ⟨w.heap.size, 0, none⟩ (.slice b (dlen D) (dlen D))).setCell ⟨w.heap.size, 1, none⟩ (.slice c (dlen X) (dlen X))).setCell ⟨w.heap.size, 2, none⟩ (.int .i64 (p : Int))).setCell ⟨w.heap.size, 3, none⟩ (.int .i64 (s : Int))) := ((((Wr.refl _ _ _ _).setCell (by omega) (by omega) _).setCell (by omega) (by omega) _).setCell (by omega) (by omega) _).setCell (by omega) (by omega) _
              refine ⟨nx.1, fun h0 => ?_⟩
              obtain ⟨b1, o1, e1, h1, q1, q2⟩ := nx.2 h0
              have hne : b1 ≠ w.heap.size := fun e => by
                have := q1 0 (dlen_pos h0)
                rw [e] at this
                unfold World.cell? at this
                simp only [h85] at this
                match o1, this with
                | 0, t => simp [nd4, oct] at t
                | 1, t => simp [nd4, oct] at t
                | 2, t => simp [nd4, oct] at t
                | 3, t => simp [nd4, oct] at t
                | n + 4, t => simp [nd4] at t
              exact ⟨b1, o1, e1, h1, q1.wr hwr (.inl hne), q2.wr hwr (q1.block_lt (dlen_pos h0))⟩
            clear nx
            go_wp2
            refine bodyPost_ret (results_cell_row rfl _ _ w.heap.size 85 _ (0, 0) _ rfl g3 Taig.underlying85 rfl (by rw [Taig.size85]; rfl)) rfl ?_
            exact ⟨c, X, rfl, ntx, unhide hRp, (((hbA.setCell (Nat.le_refl _) _).setCell (Nat.le_refl _) _).setCell (Nat.le_refl _) _).setCell (Nat.le_refl _) _⟩
end Go.Proofs.Ygctai
