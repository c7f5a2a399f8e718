/-
  law: row, of Push, Sqr and Mul.
-/
import Derived.Test.YgctaiQW
import Derived.Test.YgctaiTake
import Derived.Test.YgctaiWhole
namespace Go.Proofs.Ygctai
open Go.RowKit
set_option linter.unusedVariables false
attribute [local go_sem ↓] Go.wp_at_zero Go.wp_at_succ

/-- The two boxes and the result. -/
structure RwI (w w2 : World) (s o kd ar : Value) : Prop where
  size : w2.heap.size = w.heap.size + 3
  b : Below w.heap.size w w2
  r0 : Row w2 w.heap.size 0 2 (st2 s o)
  r1 : Row w2 (w.heap.size + 1) 0 2 (st2 kd ar)
  r2 : Row w2 (w.heap.size + 2) 0 2 (st2 (.slice none 0 0) (.slice none 0 0))
  f2 : Free w2 (w.heap.size + 2) 0 2
theorem rwi_new (w : World) (s o kd ar : Value) : RwI w (((w.alloc (.cells #[s, o] 102)).alloc (.cells #[kd, ar] 74)).alloc (.cells #[.slice none 0 0, .slice none 0 0] 102)) s o kd ar := by
  have s0 : (w.alloc (.cells #[s, o] 102)).heap.size = w.heap.size + 1 := by simp
  have s1 : ((w.alloc (.cells #[s, o] 102)).alloc (.cells #[kd, ar] 74)).heap.size = w.heap.size + 2 := by simp
  have r0 := st2_new w s o
  have r1 : Row ((w.alloc (.cells #[s, o] 102)).alloc (.cells #[kd, ar] 74)) (w.alloc (.cells #[s, o] 102)).heap.size 0 2 (st2 kd ar) := row_new _ _ 74 2 _ (fun i hi => by
    match i, hi with
    | 0, _ => rfl
    | 1, _ => rfl)
  have r2 := st2_new ((w.alloc (.cells #[s, o] 102)).alloc (.cells #[kd, ar] 74)) (.slice none 0 0) (.slice none 0 0)
  have f2 := free_new ((w.alloc (.cells #[s, o] 102)).alloc (.cells #[kd, ar] 74)) #[.slice none 0 0, .slice none 0 0] 102 2
  rw [s0] at r1
  rw [s1] at r2 f2
  exact ⟨by simp, (((Below.refl _ _).alloc (Nat.le_refl _) _).alloc (by omega) _).alloc (by omega) _, (r0.alloc _).alloc _, r1.alloc _, r2, f2⟩
theorem RwI.keep {w w2 w3 : World} {s o kd ar : Value} (h : RwI w w2 s o kd ar) (hb : Below w2.heap.size w2 w3) : Row w3 w.heap.size 0 2 (st2 s o) ∧ Row w3 (w.heap.size + 1) 0 2 (st2 kd ar) ∧ Row w3 (w.heap.size + 2) 0 2 (st2 (.slice none 0 0) (.slice none 0 0)) ∧ Free w3 (w.heap.size + 2) 0 2 :=
  ⟨h.r0.keep hb, h.r1.keep hb, h.r2.keep hb, h.f2.below hb (by have := h.size; omega)⟩
/-- What avoids a block of old goes on avoiding it. -/
def Avd (w : World) (sa so sb ob : Option Addr) (n n' : Nat) (ad ad' : Nat → Option Addr) : Prop :=
  ∀ W, W < w.heap.size → Apt (some ⟨W, 0, none⟩) sa → Apt (some ⟨W, 0, none⟩) so → (∀ i, i < n → Apt (some ⟨W, 0, none⟩) (ad i)) → Apt (some ⟨W, 0, none⟩) sb ∧ Apt (some ⟨W, 0, none⟩) ob ∧ ∀ i, i < n' → Apt (some ⟨W, 0, none⟩) (ad' i)
theorem No.avd {w w' : World} {ob k n : Nat} {sa so : Option Addr} {ad : Nat → Option Addr} (h : No w w' ob k) : Avd w sa so sa (some ⟨ob, 0, none⟩) n n ad ad := fun W hW h1 h2 h3 =>
  ⟨h1, (lo_some hW).apt (fun b o x e => by injection e with e; injection e with e; have := h.lo; omega), h3⟩
theorem Nw.avd {w w' : World} {nb m n : Nat} {S : Nat → Nat} {ad : Nat → Option Addr} {d sa so : Option Addr} {N : Nat} (h : Nw w w' nb m S ad d N) (hm : m ≤ n) : Avd w sa so (some ⟨nb, 0, none⟩) so n (m + 1) ad (upd ad m d) := fun W hW h1 h2 h3 =>
  ⟨(lo_some hW).apt (fun b o x e => by injection e with e; injection e with e; have := h.lo; omega), h2, fun i hi => by
    by_cases e : i = m
    · subst e; rw [upd_at]; exact (lo_some hW).apt h.nt.hi
    · rw [upd_ne _ _ e]; exact h3 i (by omega)⟩

set_option maxRecDepth 100000 in
set_option maxHeartbeats 2000000 in
theorem row_push (sa so : Option Addr) (n k v : Nat) (S : Nat → Nat) (ad : Nat → Option Addr) (a : Option Addr) (la ca : Nat) (f : Nat → Nat) (w : World) (hp : Pcx w 0 sa n S ad) (ho : Oup w 0 so k) (hn : n ≤ 16) (hk : k ≤ 1024) (hs : Sl w a la f) (hf : Byt f) (h1 : la ≤ ca) (h2 : ca ≤ 9223372036854775807) (h3 : la ≤ 512) (hv : val f la = v) :
    Calls Taig.prog 94 #[.int .u8 0, .agg #[.slice sa n n, .slice so k k], .agg #[.int .u8 0, .slice a la ca]] w fun e w' =>
      ∃ sb ob ad', e = .returned (.agg #[.slice sb (stp 0 v ⟨n, S, k⟩).n (stp 0 v ⟨n, S, k⟩).n, .slice ob (stp 0 v ⟨n, S, k⟩).o (stp 0 v ⟨n, S, k⟩).o]) ∧ Pcx w' 0 sb (stp 0 v ⟨n, S, k⟩).n (stp 0 v ⟨n, S, k⟩).S ad' ∧ Oup w' 0 ob (stp 0 v ⟨n, S, k⟩).o ∧ Below w.heap.size w w' ∧ Avd w sa so sb ob n (stp 0 v ⟨n, S, k⟩).n ad ad' := by
  have I := hide (rwi_new w (.slice sa n n) (.slice so k k) (.int .u8 0) (.slice a la ca))
  have HP := hide hp
  have HO := hide ho
  clear hp ho
  have HS := hide hs
  have HV := hide hv
  clear hs hv
  go_enter Taig.func94, Taig.ntmps94
  go_upto_region 2 with fail
  generalize (((w.alloc (.cells #[.slice sa n n, .slice so k k] 102)).alloc (.cells #[.int .u8 0, .slice a la ca] 74)).alloc (.cells #[.slice none 0 0, .slice none 0 0] 102)) = w2 at *
  have q0 := (unhide I).r0 0 (by decide)
  have q1 := (unhide I).r0 1 (by decide)
  have bb := (unhide I).b
  simp only [Nat.zero_add, st2] at q0 q1
  have hlt : w.heap.size < w2.heap.size := by have := (unhide I).size; omega
  have hlt1 : w.heap.size + 1 < w2.heap.size := by have := (unhide I).size; omega
  have hlt2 : w.heap.size + 2 < w2.heap.size := by have := (unhide I).size; omega
  have KS : Hid (∀ w3, Below w2.heap.size w2 w3 → Calls Taig.prog 110 #[.slice so k k, .int .i8 (-2)] w3 fun e w' => e = .returned (.slice (some ⟨w3.heap.size, 0, none⟩) (k + 1) (k + 1)) ∧ Hid (Row w' w3.heap.size 0 (k + 1) (fun _ => .int .i8 (-2))) ∧ Below w3.heap.size w3 w' ∧ Below w2.heap.size w2 w') := fun w3 h3 => by
    refine (appended_any so k k w3 ((unhide HO).keep (bb.trans (h3.mono (by omega)))) hk).mono ?_
    rintro e w' ⟨rfl, hr, hb⟩
    obtain ⟨b', e', _, r'⟩ := hr (Nat.succ_pos _)
    injection e' with e'; injection e' with e'
    subst e'
    exact ⟨rfl, r', hb, h3.trans (hb.mono h3.size)⟩
  have sz1 : (w2.alloc (.cells #[.slice none 0 0, .slice none 0 0] 102)).drew.heap.size = w2.heap.size + 1 := by simp
  have z0 := (st2_new w2 (.slice none 0 0) (.slice none 0 0)) 0 (by decide)
  have z1 := (st2_new w2 (.slice none 0 0) (.slice none 0 0)) 1 (by decide)
  have y0 := (free_new w2 #[.slice none 0 0, .slice none 0 0] 102 2).all (by decide) 0
  have y1 := (free_new w2 #[.slice none 0 0, .slice none 0 0] 102 2).all (by decide) 1
  simp only [Nat.zero_add, st2] at z0 z1
  go_cut [8] (fun rv wc => ∃ rb nb, rv = .pointer (some ⟨rb, 0, none⟩) ∧ Hid (Mk w2 wc rb nb (k + 1) (.slice sa n n) (.slice (some ⟨nb, 0, none⟩) (k + 1) (k + 1)) (fun _ => .int .i8 (-2))))
  case first =>
    have nn0 := World.new_ne w2 _ q0
    have nn1 := World.new_ne w2 _ q1
    have nn2 : w.heap.size ≠ w2.heap.size := by omega
    have nn3 : w2.heap.size ≠ w.heap.size := by omega
    go_region_held3 (fun w' => w'.cell? ⟨w.heap.size, 0, none⟩ = some (.slice sa n n) ∧ w'.cell? ⟨w.heap.size, 1, none⟩ = some (.slice so k k)) (go_keep)
      (first
        | (go_at_call 110; refine (unhide KS _ ?_).mono ?_; exact (Below.refl _ _).drew; rintro e w4 ⟨rfl, hrow, hb4, hb24⟩; have p0 : w4.cell? ⟨w.heap.size, 0, none⟩ = some (.slice sa n n) := (hb24.cell hlt).trans q0; have p1 : w4.cell? ⟨w.heap.size, 1, none⟩ = some (.slice so k k) := (hb24.cell hlt).trans q1)
        | (go_at_call 110; refine (unhide KS _ ?_).mono ?_; exact ((Below.refl _ _).alloc (Nat.le_refl _) _).drew; rintro e w4 ⟨rfl, hrow, hb4, hb24⟩; have p0 : w4.cell? ⟨w.heap.size, 0, none⟩ = some (.slice sa n n) := (hb24.cell hlt).trans q0; have p1 : w4.cell? ⟨w.heap.size, 1, none⟩ = some (.slice so k k) := (hb24.cell hlt).trans q1
           have t0 : w4.cell? ⟨w2.heap.size, 0, none⟩ = some (.slice none 0 0) := (hb4.cell (by simp)).trans z0; have t1 : w4.cell? ⟨w2.heap.size, 1, none⟩ = some (.slice none 0 0) := (hb4.cell (by simp)).trans z1
           have t2 : w4.frozen? ⟨w2.heap.size, 0, none⟩ = false := (hb4.frozen (by simp)).trans y0; have t3 : w4.frozen? ⟨w2.heap.size, 1, none⟩ = false := (hb4.frozen (by simp)).trans y1))
    · go_wp2
      go_meet
      case rel => exact ⟨_, _, rfl, mkA _ _ (Nat.le_refl _) (unhide hrow) hb24⟩
    · go_wp2
      go_meet
      case rel => exact ⟨_, _, rfl, mkB _ _ rfl (by rw [← sz1]; exact unhide hrow) hb24 t0 t1⟩
  case rest =>
    obtain ⟨rb, nb, rfl, HM⟩ := hcut
    have bc := (unhide HM).2.2.2.2
    have sc := bc.size
    obtain ⟨k0, k1, k2, k3⟩ := (unhide I).keep bc
    have p0 := k0 0 (by decide)
    have p1 := k0 1 (by decide)
    have m0 := k1 0 (by decide)
    have m1 := k1 1 (by decide)
    have v0 := k2 0 (by decide)
    have v1 := k2 1 (by decide)
    have x0 := k3.all (by decide) 0
    have x1 := k3.all (by decide) 1
    simp only [Nat.zero_add, st2] at p0 p1 m0 m1 v0 v1
    have bw : Below w.heap.size w wc := bb.trans (bc.mono (by omega))
    have R2 := hide k2
    have F2 := hide k3
    clear z0 z1 y0 y1 KS sz1 k0 k1 k2 k3 q0 q1
    by_cases c16 : n < 16
    · have hst : Hid (stp 0 v ⟨n, S, k⟩ = ⟨n + 1, upd S n v, k⟩) := by unfold Hid stp; simp only [if_pos, c16]
      have K20 : Hid (∀ w', Calls Taig.prog 20 #[.slice a la ca, .int .i64 512] w' fun e w'' => e = .returned (.slice a la ca) ∧ w' = w'') := fun w' => by
        refine (digits_any a la ca 512 w' h1 h2 (by omega)).mono ?_
        rintro e w'' ⟨rfl, rfl⟩
        exact ⟨by rw [Nat.min_eq_left h3, dcap, if_neg (by omega)], rfl⟩
      have K15 : Hid (∀ w3, Below wc.heap.size wc w3 → Calls Taig.prog 15 #[.slice a la ca] w3 fun e w' => ∃ d, e = .returned (.slice d (dlen v) (dlen v)) ∧ Hid (Nt w' wc.heap.size d v) ∧ Below wc.heap.size wc w') := fun w3 hb3 => by
        have := take_any a la ca f w3 ((unhide HS).keep (bw.trans (hb3.mono (by omega)))) hf h1 h2
        rw [Nat.min_eq_left (by omega), unhide HV] at this
        refine this.mono ?_
        rintro e w' ⟨d, rfl, hd, hb⟩
        exact ⟨d, rfl, hd.mono hb3.size, hb3.trans (hb.mono hb3.size)⟩
      have K111 : Hid (∀ w3 d, Hid (Nt w3 wc.heap.size d v) → Below wc.heap.size wc w3 → Calls Taig.prog 111 #[.slice sa n n, .int .i64 0, .slice d (dlen v) (dlen v)] w3 fun e w' => ∃ nb, e = .returned (.slice (some ⟨nb, 0, none⟩) (n + 1) (n + 1)) ∧ Hid (Nw wc w' nb n S ad d v) ∧ Below wc.heap.size wc w') := fun w3 d hd hb3 => by
        have := stacked_any sa n 0 S ad d v w3 ((unhide HP).keep (bw.trans (hb3.mono (by omega)))) hn (Nat.zero_le _)
        rw [Nat.sub_zero] at this
        refine this.mono ?_
        rintro e w' ⟨rfl, hr, hb⟩
        exact ⟨_, rfl, ⟨hb3.size, hr, (unhide hd).keep hb, hb3.trans (hb.mono hb3.size)⟩, hb3.trans (hb.mono hb3.size)⟩
      have hl0 : w.heap.size < wc.heap.size := by omega
      have hl1 : w.heap.size + 1 < wc.heap.size := by omega
      have hl2 : w.heap.size + 2 < wc.heap.size := by omega
      have nz1 : w.heap.size + 1 + 1 ≠ w.heap.size := by omega
      have nz2 : w.heap.size ≠ w.heap.size + 1 + 1 := by omega
      have nz3 : w.heap.size + 1 + 1 ≠ w.heap.size + 1 := by omega
      have ne16 : ((n : Int) == 16) = false := by simp; omega
      go_wp2
      go_region_held3 (fun w' => w'.cell? ⟨w.heap.size, 0, none⟩ = some (.slice sa n n) ∧ w'.cell? ⟨w.heap.size, 1, none⟩ = some (.slice so k k) ∧ w'.cell? ⟨w.heap.size + 1, 1, none⟩ = some (.slice a la ca)) (go_keep)
        (first
          | (go_at_call 20; refine (unhide K20 _).mono ?_; rintro e w4 ⟨rfl, rfl⟩)
          | (go_at_call 15; refine (unhide K15 _ ?_).mono ?_; exact (Below.refl _ _).drew; rintro e w4 ⟨d, rfl, hd4, hb4⟩; have j0 : w4.cell? ⟨w.heap.size, 0, none⟩ = some (.slice sa n n) := (hb4.cell hl0).trans p0; have j1 : w4.cell? ⟨w.heap.size, 1, none⟩ = some (.slice so k k) := (hb4.cell hl0).trans p1; have j2 : w4.cell? ⟨w.heap.size + 1, 1, none⟩ = some (.slice a la ca) := (hb4.cell hl1).trans m1)
          | (go_at_call 111; refine (unhide K111 _ d hd4 hb4).mono ?_; rintro e w5 ⟨nb5, rfl, hnw, hb5⟩; have i0 : w5.cell? ⟨w.heap.size, 0, none⟩ = some (.slice sa n n) := (hb5.cell hl0).trans p0; have i1 : w5.cell? ⟨w.heap.size, 1, none⟩ = some (.slice so k k) := (hb5.cell hl0).trans p1; have i2 : w5.cell? ⟨w.heap.size + 1, 1, none⟩ = some (.slice a la ca) := (hb5.cell hl1).trans m1
             have e0 : w5.cell? ⟨w.heap.size + 2, 0, none⟩ = some (.slice none 0 0) := (hb5.cell hl2).trans v0; have e1 : w5.cell? ⟨w.heap.size + 2, 1, none⟩ = some (.slice none 0 0) := (hb5.cell hl2).trans v1; have g0 : w5.frozen? ⟨w.heap.size + 2, 0, none⟩ = false := (hb5.frozen hl2).trans x0; have g1 : w5.frozen? ⟨w.heap.size + 2, 1, none⟩ = false := (hb5.frozen hl2).trans x1))
      go_wp2
      have rng := hide (range_put ((unhide R2).keep hb5) (.slice (some ⟨nb5, 0, none⟩) (n + 1) (n + 1)) (.slice so k k))
      have fin := hide ((unhide hnw).put bw (Nat.le_add_right _ 2) hl2 (.slice (some ⟨nb5, 0, none⟩) (n + 1) (n + 1)) (.slice so k k))
      refine bodyPost_ret (results_cell_at rfl _ _ (w.heap.size + 2) [.slice (some ⟨nb5, 0, none⟩) (n + 1) (n + 1), .slice so k k] _ rfl (unhide rng) Taig.underlying102 rfl (by rw [Taig.size102]; rfl)) rfl ?_
      rw [unhide hst]
      exact ⟨_, _, _, rfl, (unhide fin).pcx (unhide HP) (Nat.le_refl _), (unhide HO).keep (unhide fin).b, (unhide fin).b, (unhide fin).avd (Nat.le_refl _)⟩
    · have hst : Hid (stp 0 v ⟨n, S, k⟩ = ⟨n, S, k + 1⟩) := by unfold Hid stp; simp only [if_pos, c16, if_false]
      obtain rfl : n = 16 := by omega
      have u0 := (unhide HM).2.2.1 0 (by decide)
      have u1 := (unhide HM).2.2.1 1 (by decide)
      simp only [Nat.zero_add, st2] at u0 u1
      have rng := hide (range_put (unhide R2) (.slice sa 16 16) (.slice (some ⟨nb, 0, none⟩) (k + 1) (k + 1)))
      have fin := hide ((unhide HM).no.put bb (Nat.le_add_right _ 2) hlt2 (.slice sa 16 16) (.slice (some ⟨nb, 0, none⟩) (k + 1) (k + 1)))
      skip
      go_wp2
      all_goals
        refine bodyPost_ret (results_cell_at rfl _ _ (w.heap.size + 2) [.slice sa 16 16, .slice (some ⟨nb, 0, none⟩) (k + 1) (k + 1)] _ rfl (unhide rng) Taig.underlying102 rfl (by rw [Taig.size102]; rfl)) rfl ?_
        rw [unhide hst]
        exact ⟨_, _, _, rfl, (unhide HP).keep (unhide fin).b, (unhide fin).oup, (unhide fin).b, (unhide fin).avd⟩

set_option maxRecDepth 100000 in
set_option maxHeartbeats 2000000 in
theorem row_sqr (sa so : Option Addr) (n k v : Nat) (S : Nat → Nat) (ad : Nat → Option Addr) (a : Option Addr) (la ca : Nat) (f : Nat → Nat) (w : World) (hp : Pcx w 0 sa n S ad) (ho : Oup w 0 so k) (hn : n ≤ 16) (hk : k ≤ 1024) :
    Calls Taig.prog 94 #[.int .u8 0, .agg #[.slice sa n n, .slice so k k], .agg #[.int .u8 4, .slice a la ca]] w fun e w' =>
      ∃ sb ob ad', e = .returned (.agg #[.slice sb (stp 4 v ⟨n, S, k⟩).n (stp 4 v ⟨n, S, k⟩).n, .slice ob (stp 4 v ⟨n, S, k⟩).o (stp 4 v ⟨n, S, k⟩).o]) ∧ Pcx w' 0 sb (stp 4 v ⟨n, S, k⟩).n (stp 4 v ⟨n, S, k⟩).S ad' ∧ Oup w' 0 ob (stp 4 v ⟨n, S, k⟩).o ∧ Below w.heap.size w w' ∧ Avd w sa so sb ob n (stp 4 v ⟨n, S, k⟩).n ad ad' := by
  have I := hide (rwi_new w (.slice sa n n) (.slice so k k) (.int .u8 4) (.slice a la ca))
  have HP := hide hp
  have HO := hide ho
  clear hp ho
  skip
  go_enter Taig.func94, Taig.ntmps94
  go_upto_region 2 with fail
  generalize (((w.alloc (.cells #[.slice sa n n, .slice so k k] 102)).alloc (.cells #[.int .u8 4, .slice a la ca] 74)).alloc (.cells #[.slice none 0 0, .slice none 0 0] 102)) = w2 at *
  have q0 := (unhide I).r0 0 (by decide)
  have q1 := (unhide I).r0 1 (by decide)
  have bb := (unhide I).b
  simp only [Nat.zero_add, st2] at q0 q1
  have hlt : w.heap.size < w2.heap.size := by have := (unhide I).size; omega
  have hlt1 : w.heap.size + 1 < w2.heap.size := by have := (unhide I).size; omega
  have hlt2 : w.heap.size + 2 < w2.heap.size := by have := (unhide I).size; omega
  have KS : Hid (∀ w3, Below w2.heap.size w2 w3 → Calls Taig.prog 110 #[.slice so k k, .int .i8 (-2)] w3 fun e w' => e = .returned (.slice (some ⟨w3.heap.size, 0, none⟩) (k + 1) (k + 1)) ∧ Hid (Row w' w3.heap.size 0 (k + 1) (fun _ => .int .i8 (-2))) ∧ Below w3.heap.size w3 w' ∧ Below w2.heap.size w2 w') := fun w3 h3 => by
    refine (appended_any so k k w3 ((unhide HO).keep (bb.trans (h3.mono (by omega)))) hk).mono ?_
    rintro e w' ⟨rfl, hr, hb⟩
    obtain ⟨b', e', _, r'⟩ := hr (Nat.succ_pos _)
    injection e' with e'; injection e' with e'
    subst e'
    exact ⟨rfl, r', hb, h3.trans (hb.mono h3.size)⟩
  have sz1 : (w2.alloc (.cells #[.slice none 0 0, .slice none 0 0] 102)).drew.heap.size = w2.heap.size + 1 := by simp
  have z0 := (st2_new w2 (.slice none 0 0) (.slice none 0 0)) 0 (by decide)
  have z1 := (st2_new w2 (.slice none 0 0) (.slice none 0 0)) 1 (by decide)
  have y0 := (free_new w2 #[.slice none 0 0, .slice none 0 0] 102 2).all (by decide) 0
  have y1 := (free_new w2 #[.slice none 0 0, .slice none 0 0] 102 2).all (by decide) 1
  simp only [Nat.zero_add, st2] at z0 z1
  go_cut [8] (fun rv wc => ∃ rb nb, rv = .pointer (some ⟨rb, 0, none⟩) ∧ Hid (Mk w2 wc rb nb (k + 1) (.slice sa n n) (.slice (some ⟨nb, 0, none⟩) (k + 1) (k + 1)) (fun _ => .int .i8 (-2))))
  case first =>
    have nn0 := World.new_ne w2 _ q0
    have nn1 := World.new_ne w2 _ q1
    have nn2 : w.heap.size ≠ w2.heap.size := by omega
    have nn3 : w2.heap.size ≠ w.heap.size := by omega
    go_region_held3 (fun w' => w'.cell? ⟨w.heap.size, 0, none⟩ = some (.slice sa n n) ∧ w'.cell? ⟨w.heap.size, 1, none⟩ = some (.slice so k k)) (go_keep)
      (first
        | (go_at_call 110; refine (unhide KS _ ?_).mono ?_; exact (Below.refl _ _).drew; rintro e w4 ⟨rfl, hrow, hb4, hb24⟩; have p0 : w4.cell? ⟨w.heap.size, 0, none⟩ = some (.slice sa n n) := (hb24.cell hlt).trans q0; have p1 : w4.cell? ⟨w.heap.size, 1, none⟩ = some (.slice so k k) := (hb24.cell hlt).trans q1)
        | (go_at_call 110; refine (unhide KS _ ?_).mono ?_; exact ((Below.refl _ _).alloc (Nat.le_refl _) _).drew; rintro e w4 ⟨rfl, hrow, hb4, hb24⟩; have p0 : w4.cell? ⟨w.heap.size, 0, none⟩ = some (.slice sa n n) := (hb24.cell hlt).trans q0; have p1 : w4.cell? ⟨w.heap.size, 1, none⟩ = some (.slice so k k) := (hb24.cell hlt).trans q1
           have t0 : w4.cell? ⟨w2.heap.size, 0, none⟩ = some (.slice none 0 0) := (hb4.cell (by simp)).trans z0; have t1 : w4.cell? ⟨w2.heap.size, 1, none⟩ = some (.slice none 0 0) := (hb4.cell (by simp)).trans z1
           have t2 : w4.frozen? ⟨w2.heap.size, 0, none⟩ = false := (hb4.frozen (by simp)).trans y0; have t3 : w4.frozen? ⟨w2.heap.size, 1, none⟩ = false := (hb4.frozen (by simp)).trans y1))
    · go_wp2
      go_meet
      case rel => exact ⟨_, _, rfl, mkA _ _ (Nat.le_refl _) (unhide hrow) hb24⟩
    · go_wp2
      go_meet
      case rel => exact ⟨_, _, rfl, mkB _ _ rfl (by rw [← sz1]; exact unhide hrow) hb24 t0 t1⟩
  case rest =>
    obtain ⟨rb, nb, rfl, HM⟩ := hcut
    have bc := (unhide HM).2.2.2.2
    have sc := bc.size
    obtain ⟨k0, k1, k2, k3⟩ := (unhide I).keep bc
    have p0 := k0 0 (by decide)
    have p1 := k0 1 (by decide)
    have m0 := k1 0 (by decide)
    have m1 := k1 1 (by decide)
    have v0 := k2 0 (by decide)
    have v1 := k2 1 (by decide)
    have x0 := k3.all (by decide) 0
    have x1 := k3.all (by decide) 1
    simp only [Nat.zero_add, st2] at p0 p1 m0 m1 v0 v1
    have bw : Below w.heap.size w wc := bb.trans (bc.mono (by omega))
    have R2 := hide k2
    have F2 := hide k3
    clear z0 z1 y0 y1 KS sz1 k0 k1 k2 k3 q0 q1
    by_cases c1 : 1 ≤ n ∧ dlen (S (n - 1)) ≤ 512
    · have hst : Hid (stp 4 v ⟨n, S, k⟩ = ⟨n - 1 + 1, upd S (n - 1) (S (n - 1) * S (n - 1)), k⟩) := by
        unfold Hid stp
        simp only [show ¬ (4 : Nat) = 0 by decide, if_false, if_true]
        rw [if_pos c1, Nat.sub_add_cancel c1.1]
      obtain ⟨sb, rfl, _, rr⟩ := (unhide HP).row (by omega)
      have cw := (rr.keep bw) (n - 1) (by omega)
      have hsb := rr.block_lt (by omega)
      rw [Nat.zero_add] at cw
      have nt := ((unhide HP).ent (n - 1) (by omega)).keep (bw.drew)
      have K := hide (multipliedRow_any (some ⟨sb, 0, none⟩) so n k 1 S ad (ad (n - 1)) (ad (n - 1)) (S (n - 1)) (S (n - 1)) wc.drew ((unhide HP).keep bw.drew) hn c1.1 nt nt c1.2 c1.2)
      have hl0 : w.heap.size < wc.heap.size := by omega
      have hl2 : w.heap.size + 2 < wc.heap.size := by omega
      have hls : sb < wc.heap.size := by omega
      have ne0 : ((n : Int) == 0) = false := by simp; omega
      have i1 : IntKind.i64.wrap ((n : Int) - 1) = ((n - 1 : Nat) : Int) := by rw [IntKind.wrap_i64]; omega
      have i2 : (0 : Int) ≤ ((n - 1 : Nat) : Int) := by omega
      have i3 : ((n - 1 : Nat) : Int) < (n : Int) := by omega
      have nz1 : w.heap.size + 1 + 1 ≠ w.heap.size := by omega
      have nz2 : w.heap.size ≠ w.heap.size + 1 + 1 := by omega
      have nz3 : w.heap.size + 1 + 1 ≠ w.heap.size + 1 := by omega
      have nz4 : w.heap.size + 1 + 1 ≠ sb := by omega
      have nz5 : sb ≠ w.heap.size + 1 + 1 := by omega
      have l5 : decide ((512 : Int) < (dlen (S (n - 1)) : Int)) = false := by simp; omega
      clear nt rr c1
      go_wp2
      go_region_held3 (fun w' => w'.cell? ⟨w.heap.size, 0, none⟩ = some (.slice (some ⟨sb, 0, none⟩) n n) ∧ w'.cell? ⟨w.heap.size, 1, none⟩ = some (.slice so k k) ∧ w'.cell? ⟨sb, n - 1, none⟩ = some (.slice (ad (n - 1)) (dlen (S (n - 1))) (dlen (S (n - 1))))) (go_keep)
        (first | (go_at_call 112; refine (unhide K).mono ?_; rintro e w5 ⟨nb5, d, rfl, hnw0⟩; have hb5 := hnw0.b; have hnw := hide hnw0; clear hnw0; have i0 : w5.cell? ⟨w.heap.size, 0, none⟩ = some (.slice (some ⟨sb, 0, none⟩) n n) := (hb5.cell hl0).trans p0; have i1 : w5.cell? ⟨w.heap.size, 1, none⟩ = some (.slice so k k) := (hb5.cell hl0).trans p1; have i2 : w5.cell? ⟨sb, n - 1, none⟩ = some (.slice (ad (n - 1)) (dlen (S (n - 1))) (dlen (S (n - 1)))) := (hb5.cell hls).trans cw; have e0 : w5.cell? ⟨w.heap.size + 2, 0, none⟩ = some (.slice none 0 0) := (hb5.cell hl2).trans v0; have e1 : w5.cell? ⟨w.heap.size + 2, 1, none⟩ = some (.slice none 0 0) := (hb5.cell hl2).trans v1; have g0 : w5.frozen? ⟨w.heap.size + 2, 0, none⟩ = false := (hb5.frozen hl2).trans x0; have g1 : w5.frozen? ⟨w.heap.size + 2, 1, none⟩ = false := (hb5.frozen hl2).trans x1))
      go_wp2
      have rng := hide (range_put ((unhide R2).drew.keep hb5) (.slice (some ⟨nb5, 0, none⟩) (n - 1 + 1) (n - 1 + 1)) (.slice so k k))
      have fin := hide ((unhide hnw).put bw.drew (Nat.le_add_right _ 2) hl2 (.slice (some ⟨nb5, 0, none⟩) (n - 1 + 1) (n - 1 + 1)) (.slice so k k))
      refine bodyPost_ret (results_cell_at rfl _ _ (w.heap.size + 2) [.slice (some ⟨nb5, 0, none⟩) (n - 1 + 1) (n - 1 + 1), .slice so k k] _ rfl (unhide rng) Taig.underlying102 rfl (by rw [Taig.size102]; rfl)) rfl ?_
      rw [unhide hst]
      exact ⟨_, _, _, rfl, (unhide fin).pcx (unhide HP) (Nat.sub_le _ _), (unhide HO).keep (unhide fin).b, (unhide fin).b, (unhide fin).avd (Nat.sub_le _ _)⟩
    · have hst : Hid (stp 4 v ⟨n, S, k⟩ = ⟨n, S, k + 1⟩) := by
        unfold Hid stp
        simp only [show ¬ (4 : Nat) = 0 by decide, if_false, if_true]
        rw [if_neg c1]
      rcases Nat.eq_zero_or_pos n with hz | hz
      · subst hz
        clear c1
        have u0 := (unhide HM).2.2.1 0 (by decide)
        have u1 := (unhide HM).2.2.1 1 (by decide)
        simp only [Nat.zero_add, st2] at u0 u1
        have rng := hide (range_put (unhide R2) (.slice sa 0 0) (.slice (some ⟨nb, 0, none⟩) (k + 1) (k + 1)))
        have fin := hide ((unhide HM).no.put bb (Nat.le_add_right _ 2) hlt2 (.slice sa 0 0) (.slice (some ⟨nb, 0, none⟩) (k + 1) (k + 1)))
        skip
        go_wp2
        all_goals
          refine bodyPost_ret (results_cell_at rfl _ _ (w.heap.size + 2) [.slice sa 0 0, .slice (some ⟨nb, 0, none⟩) (k + 1) (k + 1)] _ rfl (unhide rng) Taig.underlying102 rfl (by rw [Taig.size102]; rfl)) rfl ?_
          rw [unhide hst]
          first
            | exact ⟨_, _, _, rfl, (unhide HP).keep (unhide fin).b, (unhide fin).oup, (unhide fin).b, (unhide fin).avd⟩
            | exact ⟨_, _, rfl, _, (unhide HP).keep (unhide fin).b, (unhide fin).oup, (unhide fin).b, (unhide fin).avd⟩
      · obtain ⟨sb, rfl, _, rr⟩ := (unhide HP).row (by omega)
        have cw := (rr.keep bw) (n - 1) (by omega)
        rw [Nat.zero_add] at cw
        have ne0 : ((n : Int) == 0) = false := by simp; omega
        have i1 : IntKind.i64.wrap ((n : Int) - 1) = ((n - 1 : Nat) : Int) := by rw [IntKind.wrap_i64]; omega
        have i2 : (0 : Int) ≤ ((n - 1 : Nat) : Int) := by omega
        have i3 : ((n - 1 : Nat) : Int) < (n : Int) := by omega
        have l5 : decide ((512 : Int) < (dlen (S (n - 1)) : Int)) = true := by simp; omega
        clear c1
        have u0 := (unhide HM).2.2.1 0 (by decide)
        have u1 := (unhide HM).2.2.1 1 (by decide)
        simp only [Nat.zero_add, st2] at u0 u1
        have rng := hide (range_put (unhide R2) (.slice (some ⟨sb, 0, none⟩) n n) (.slice (some ⟨nb, 0, none⟩) (k + 1) (k + 1)))
        have fin := hide ((unhide HM).no.put bb (Nat.le_add_right _ 2) hlt2 (.slice (some ⟨sb, 0, none⟩) n n) (.slice (some ⟨nb, 0, none⟩) (k + 1) (k + 1)))
        skip
        go_wp2
        all_goals
          refine bodyPost_ret (results_cell_at rfl _ _ (w.heap.size + 2) [.slice (some ⟨sb, 0, none⟩) n n, .slice (some ⟨nb, 0, none⟩) (k + 1) (k + 1)] _ rfl (unhide rng) Taig.underlying102 rfl (by rw [Taig.size102]; rfl)) rfl ?_
          rw [unhide hst]
          first
            | exact ⟨_, _, _, rfl, (unhide HP).keep (unhide fin).b, (unhide fin).oup, (unhide fin).b, (unhide fin).avd⟩
            | exact ⟨_, _, rfl, _, (unhide HP).keep (unhide fin).b, (unhide fin).oup, (unhide fin).b, (unhide fin).avd⟩

set_option maxRecDepth 100000 in
set_option maxHeartbeats 2000000 in
theorem row_mul (sa so : Option Addr) (n k v : Nat) (S : Nat → Nat) (ad : Nat → Option Addr) (a : Option Addr) (la ca : Nat) (f : Nat → Nat) (w : World) (hp : Pcx w 0 sa n S ad) (ho : Oup w 0 so k) (hn : n ≤ 16) (hk : k ≤ 1024) :
    Calls Taig.prog 94 #[.int .u8 0, .agg #[.slice sa n n, .slice so k k], .agg #[.int .u8 1, .slice a la ca]] w fun e w' =>
      ∃ sb ob ad', e = .returned (.agg #[.slice sb (stp 1 v ⟨n, S, k⟩).n (stp 1 v ⟨n, S, k⟩).n, .slice ob (stp 1 v ⟨n, S, k⟩).o (stp 1 v ⟨n, S, k⟩).o]) ∧ Pcx w' 0 sb (stp 1 v ⟨n, S, k⟩).n (stp 1 v ⟨n, S, k⟩).S ad' ∧ Oup w' 0 ob (stp 1 v ⟨n, S, k⟩).o ∧ Below w.heap.size w w' ∧ Avd w sa so sb ob n (stp 1 v ⟨n, S, k⟩).n ad ad' := by
  have I := hide (rwi_new w (.slice sa n n) (.slice so k k) (.int .u8 1) (.slice a la ca))
  have HP := hide hp
  have HO := hide ho
  clear hp ho
  skip
  go_enter Taig.func94, Taig.ntmps94
  go_upto_region 2 with fail
  generalize (((w.alloc (.cells #[.slice sa n n, .slice so k k] 102)).alloc (.cells #[.int .u8 1, .slice a la ca] 74)).alloc (.cells #[.slice none 0 0, .slice none 0 0] 102)) = w2 at *
  have q0 := (unhide I).r0 0 (by decide)
  have q1 := (unhide I).r0 1 (by decide)
  have bb := (unhide I).b
  simp only [Nat.zero_add, st2] at q0 q1
  have hlt : w.heap.size < w2.heap.size := by have := (unhide I).size; omega
  have hlt1 : w.heap.size + 1 < w2.heap.size := by have := (unhide I).size; omega
  have hlt2 : w.heap.size + 2 < w2.heap.size := by have := (unhide I).size; omega
  have KS : Hid (∀ w3, Below w2.heap.size w2 w3 → Calls Taig.prog 110 #[.slice so k k, .int .i8 (-2)] w3 fun e w' => e = .returned (.slice (some ⟨w3.heap.size, 0, none⟩) (k + 1) (k + 1)) ∧ Hid (Row w' w3.heap.size 0 (k + 1) (fun _ => .int .i8 (-2))) ∧ Below w3.heap.size w3 w' ∧ Below w2.heap.size w2 w') := fun w3 h3 => by
    refine (appended_any so k k w3 ((unhide HO).keep (bb.trans (h3.mono (by omega)))) hk).mono ?_
    rintro e w' ⟨rfl, hr, hb⟩
    obtain ⟨b', e', _, r'⟩ := hr (Nat.succ_pos _)
    injection e' with e'; injection e' with e'
    subst e'
    exact ⟨rfl, r', hb, h3.trans (hb.mono h3.size)⟩
  have sz1 : (w2.alloc (.cells #[.slice none 0 0, .slice none 0 0] 102)).drew.heap.size = w2.heap.size + 1 := by simp
  have z0 := (st2_new w2 (.slice none 0 0) (.slice none 0 0)) 0 (by decide)
  have z1 := (st2_new w2 (.slice none 0 0) (.slice none 0 0)) 1 (by decide)
  have y0 := (free_new w2 #[.slice none 0 0, .slice none 0 0] 102 2).all (by decide) 0
  have y1 := (free_new w2 #[.slice none 0 0, .slice none 0 0] 102 2).all (by decide) 1
  simp only [Nat.zero_add, st2] at z0 z1
  go_cut [8] (fun rv wc => ∃ rb nb, rv = .pointer (some ⟨rb, 0, none⟩) ∧ Hid (Mk w2 wc rb nb (k + 1) (.slice sa n n) (.slice (some ⟨nb, 0, none⟩) (k + 1) (k + 1)) (fun _ => .int .i8 (-2))))
  case first =>
    have nn0 := World.new_ne w2 _ q0
    have nn1 := World.new_ne w2 _ q1
    have nn2 : w.heap.size ≠ w2.heap.size := by omega
    have nn3 : w2.heap.size ≠ w.heap.size := by omega
    go_region_held3 (fun w' => w'.cell? ⟨w.heap.size, 0, none⟩ = some (.slice sa n n) ∧ w'.cell? ⟨w.heap.size, 1, none⟩ = some (.slice so k k)) (go_keep)
      (first
        | (go_at_call 110; refine (unhide KS _ ?_).mono ?_; exact (Below.refl _ _).drew; rintro e w4 ⟨rfl, hrow, hb4, hb24⟩; have p0 : w4.cell? ⟨w.heap.size, 0, none⟩ = some (.slice sa n n) := (hb24.cell hlt).trans q0; have p1 : w4.cell? ⟨w.heap.size, 1, none⟩ = some (.slice so k k) := (hb24.cell hlt).trans q1)
        | (go_at_call 110; refine (unhide KS _ ?_).mono ?_; exact ((Below.refl _ _).alloc (Nat.le_refl _) _).drew; rintro e w4 ⟨rfl, hrow, hb4, hb24⟩; have p0 : w4.cell? ⟨w.heap.size, 0, none⟩ = some (.slice sa n n) := (hb24.cell hlt).trans q0; have p1 : w4.cell? ⟨w.heap.size, 1, none⟩ = some (.slice so k k) := (hb24.cell hlt).trans q1
           have t0 : w4.cell? ⟨w2.heap.size, 0, none⟩ = some (.slice none 0 0) := (hb4.cell (by simp)).trans z0; have t1 : w4.cell? ⟨w2.heap.size, 1, none⟩ = some (.slice none 0 0) := (hb4.cell (by simp)).trans z1
           have t2 : w4.frozen? ⟨w2.heap.size, 0, none⟩ = false := (hb4.frozen (by simp)).trans y0; have t3 : w4.frozen? ⟨w2.heap.size, 1, none⟩ = false := (hb4.frozen (by simp)).trans y1))
    · go_wp2
      go_meet
      case rel => exact ⟨_, _, rfl, mkA _ _ (Nat.le_refl _) (unhide hrow) hb24⟩
    · go_wp2
      go_meet
      case rel => exact ⟨_, _, rfl, mkB _ _ rfl (by rw [← sz1]; exact unhide hrow) hb24 t0 t1⟩
  case rest =>
    obtain ⟨rb, nb, rfl, HM⟩ := hcut
    have bc := (unhide HM).2.2.2.2
    have sc := bc.size
    obtain ⟨k0, k1, k2, k3⟩ := (unhide I).keep bc
    have p0 := k0 0 (by decide)
    have p1 := k0 1 (by decide)
    have m0 := k1 0 (by decide)
    have m1 := k1 1 (by decide)
    have v0 := k2 0 (by decide)
    have v1 := k2 1 (by decide)
    have x0 := k3.all (by decide) 0
    have x1 := k3.all (by decide) 1
    simp only [Nat.zero_add, st2] at p0 p1 m0 m1 v0 v1
    have bw : Below w.heap.size w wc := bb.trans (bc.mono (by omega))
    have R2 := hide k2
    have F2 := hide k3
    clear z0 z1 y0 y1 KS sz1 k0 k1 k2 k3 q0 q1
    by_cases c1 : 2 ≤ n ∧ dlen (S (n - 2)) ≤ 512 ∧ dlen (S (n - 1)) ≤ 512
    · have hst : Hid (stp 1 v ⟨n, S, k⟩ = ⟨n - 2 + 1, upd S (n - 2) (S (n - 2) * S (n - 1)), k⟩) := by
        unfold Hid stp
        simp only [show ¬ (1 : Nat) = 0 by decide, show ¬ (1 : Nat) = 4 by decide, if_false]
        rw [if_pos c1, show n - 2 + 1 = n - 1 by omega]
      obtain ⟨sb, rfl, _, rr⟩ := (unhide HP).row (by omega)
      have cw := (rr.keep bw) (n - 1) (by omega)
      have cv := (rr.keep bw) (n - 2) (by omega)
      have hsb := rr.block_lt (by omega)
      rw [Nat.zero_add] at cw cv
      have nt := ((unhide HP).ent (n - 1) (by omega)).keep (bw.drew)
      have nt2 := ((unhide HP).ent (n - 2) (by omega)).keep (bw.drew)
      have K0 := rowOfTwo_mul (some ⟨sb, 0, none⟩) so n k S ad (ad (n - 2)) (ad (n - 1)) (S (n - 2)) (S (n - 1)) wc.drew ((unhide HP).keep bw.drew) ((unhide HO).keep bw.drew) hn hk (by omega) nt2 nt
      have hl0 : w.heap.size < wc.heap.size := by omega
      have hl1 : w.heap.size + 1 < wc.heap.size := by omega
      have hl2 : w.heap.size + 2 < wc.heap.size := by omega
      have hls : sb < wc.heap.size := by omega
      have i1 : IntKind.i64.wrap ((n : Int) - 1) = ((n - 1 : Nat) : Int) := by rw [IntKind.wrap_i64]; omega
      have i2 : (0 : Int) ≤ ((n - 1 : Nat) : Int) := by omega
      have i3 : ((n - 1 : Nat) : Int) < (n : Int) := by omega
      have j1 : IntKind.i64.wrap ((n : Int) - 2) = ((n - 2 : Nat) : Int) := by rw [IntKind.wrap_i64]; omega
      have j2 : (0 : Int) ≤ ((n - 2 : Nat) : Int) := by omega
      have j3 : ((n - 2 : Nat) : Int) < (n : Int) := by omega
      have nz1 : w.heap.size + 1 + 1 ≠ w.heap.size := by omega
      have nz2 : w.heap.size ≠ w.heap.size + 1 + 1 := by omega
      have nz3 : w.heap.size + 1 + 1 ≠ w.heap.size + 1 := by omega
      have nz4 : w.heap.size + 1 + 1 ≠ sb := by omega
      have nz5 : sb ≠ w.heap.size + 1 + 1 := by omega

      have K : Hid (Calls Taig.prog 113 #[.int .u8 0, .agg #[.slice (some ⟨sb, 0, none⟩) n n, .slice so k k], .int .u8 1, .slice (ad (n - 2)) (dlen (S (n - 2))) (dlen (S (n - 2))), .slice (ad (n - 1)) (dlen (S (n - 1))) (dlen (S (n - 1)))] wc.drew fun e w' => ∃ nb d, e = .returned (.agg #[.slice (some ⟨nb, 0, none⟩) (n - 2 + 1) (n - 2 + 1), .slice so k k]) ∧ Nw wc.drew w' nb (n - 2) S ad d (S (n - 2) * S (n - 1))) := by
        refine K0.mono ?_
        rintro e w' (⟨_, _, h⟩ | ⟨h, _⟩)
        · exact h
        · exact absurd c1.2 h
      have h2n := c1.1
      clear nt nt2 rr c1 K0
      go_wp2
      go_region_held3 (fun w' => w'.cell? ⟨w.heap.size, 0, none⟩ = some (.slice (some ⟨sb, 0, none⟩) n n) ∧ w'.cell? ⟨w.heap.size, 1, none⟩ = some (.slice so k k) ∧ w'.cell? ⟨sb, n - 1, none⟩ = some (.slice (ad (n - 1)) (dlen (S (n - 1))) (dlen (S (n - 1)))) ∧ w'.cell? ⟨sb, n - 2, none⟩ = some (.slice (ad (n - 2)) (dlen (S (n - 2))) (dlen (S (n - 2)))) ∧ w'.cell? ⟨w.heap.size + 1, 0, none⟩ = some (.int .u8 1)) (go_keep)
        (first | (go_at_call 113; refine (unhide K).mono ?_; rintro e w5 ⟨nb5, d, rfl, hnw0⟩; have hb5 := hnw0.b; have hnw := hide hnw0; clear hnw0; have i0 : w5.cell? ⟨w.heap.size, 0, none⟩ = some (.slice (some ⟨sb, 0, none⟩) n n) := (hb5.cell hl0).trans p0; have i1 : w5.cell? ⟨w.heap.size, 1, none⟩ = some (.slice so k k) := (hb5.cell hl0).trans p1; have i2 : w5.cell? ⟨sb, n - 1, none⟩ = some (.slice (ad (n - 1)) (dlen (S (n - 1))) (dlen (S (n - 1)))) := (hb5.cell hls).trans cw; have e0 : w5.cell? ⟨w.heap.size + 2, 0, none⟩ = some (.slice none 0 0) := (hb5.cell hl2).trans v0; have e1 : w5.cell? ⟨w.heap.size + 2, 1, none⟩ = some (.slice none 0 0) := (hb5.cell hl2).trans v1; have g0 : w5.frozen? ⟨w.heap.size + 2, 0, none⟩ = false := (hb5.frozen hl2).trans x0; have g1 : w5.frozen? ⟨w.heap.size + 2, 1, none⟩ = false := (hb5.frozen hl2).trans x1; have i4 : w5.cell? ⟨sb, n - 2, none⟩ = some (.slice (ad (n - 2)) (dlen (S (n - 2))) (dlen (S (n - 2)))) := (hb5.cell hls).trans cv; have i5 : w5.cell? ⟨w.heap.size + 1, 0, none⟩ = some (.int .u8 1) := (hb5.cell hl1).trans m0))
      go_wp2
      have rng := hide (range_put ((unhide R2).drew.keep hb5) (.slice (some ⟨nb5, 0, none⟩) (n - 2 + 1) (n - 2 + 1)) (.slice so k k))
      have fin := hide ((unhide hnw).put bw.drew (Nat.le_add_right _ 2) hl2 (.slice (some ⟨nb5, 0, none⟩) (n - 2 + 1) (n - 2 + 1)) (.slice so k k))
      refine bodyPost_ret (results_cell_at rfl _ _ (w.heap.size + 2) [.slice (some ⟨nb5, 0, none⟩) (n - 2 + 1) (n - 2 + 1), .slice so k k] _ rfl (unhide rng) Taig.underlying102 rfl (by rw [Taig.size102]; rfl)) rfl ?_
      rw [unhide hst]
      exact ⟨_, _, _, rfl, (unhide fin).pcx (unhide HP) (Nat.sub_le _ _), (unhide HO).keep (unhide fin).b, (unhide fin).b, (unhide fin).avd (Nat.sub_le _ _)⟩
    · have hst : Hid (stp 1 v ⟨n, S, k⟩ = ⟨n, S, k + 1⟩) := by
        unfold Hid stp
        simp only [show ¬ (1 : Nat) = 0 by decide, show ¬ (1 : Nat) = 4 by decide, if_false]
        rw [if_neg c1]
      by_cases c2 : 2 ≤ n
      · clear hst
        have hst : Hid (stp 1 v ⟨n, S, k⟩ = ⟨n, S, k + 1⟩) := by
          unfold Hid stp
          simp only [show ¬ (1 : Nat) = 0 by decide, show ¬ (1 : Nat) = 4 by decide, if_false]
          rw [if_neg c1]
        obtain ⟨sb, rfl, _, rr⟩ := (unhide HP).row (by omega)
        have cw := (rr.keep bw) (n - 1) (by omega)
        have cv := (rr.keep bw) (n - 2) (by omega)
        have hsb := rr.block_lt (by omega)
        rw [Nat.zero_add] at cw cv
        have nt := ((unhide HP).ent (n - 1) (by omega)).keep (bw.drew)
        have nt2 := ((unhide HP).ent (n - 2) (by omega)).keep (bw.drew)
        have K0 := rowOfTwo_mul (some ⟨sb, 0, none⟩) so n k S ad (ad (n - 2)) (ad (n - 1)) (S (n - 2)) (S (n - 1)) wc.drew ((unhide HP).keep bw.drew) ((unhide HO).keep bw.drew) hn hk (by omega) nt2 nt
        have hl0 : w.heap.size < wc.heap.size := by omega
        have hl1 : w.heap.size + 1 < wc.heap.size := by omega
        have hl2 : w.heap.size + 2 < wc.heap.size := by omega
        have hls : sb < wc.heap.size := by omega
        have i1 : IntKind.i64.wrap ((n : Int) - 1) = ((n - 1 : Nat) : Int) := by rw [IntKind.wrap_i64]; omega
        have i2 : (0 : Int) ≤ ((n - 1 : Nat) : Int) := by omega
        have i3 : ((n - 1 : Nat) : Int) < (n : Int) := by omega
        have j1 : IntKind.i64.wrap ((n : Int) - 2) = ((n - 2 : Nat) : Int) := by rw [IntKind.wrap_i64]; omega
        have j2 : (0 : Int) ≤ ((n - 2 : Nat) : Int) := by omega
        have j3 : ((n - 2 : Nat) : Int) < (n : Int) := by omega
        have nz1 : w.heap.size + 1 + 1 ≠ w.heap.size := by omega
        have nz2 : w.heap.size ≠ w.heap.size + 1 + 1 := by omega
        have nz3 : w.heap.size + 1 + 1 ≠ w.heap.size + 1 := by omega
        have nz4 : w.heap.size + 1 + 1 ≠ sb := by omega
        have nz5 : sb ≠ w.heap.size + 1 + 1 := by omega
        have K : Hid (Calls Taig.prog 113 #[.int .u8 0, .agg #[.slice (some ⟨sb, 0, none⟩) n n, .slice so k k], .int .u8 1, .slice (ad (n - 2)) (dlen (S (n - 2))) (dlen (S (n - 2))), .slice (ad (n - 1)) (dlen (S (n - 1))) (dlen (S (n - 1)))] wc.drew fun e w' => ∃ ob, e = .returned (.agg #[.slice (some ⟨sb, 0, none⟩) n n, .slice (some ⟨ob, 0, none⟩) (k + 1) (k + 1)]) ∧ No wc.drew w' ob (k + 1)) := by
          refine K0.mono ?_
          rintro e w' (⟨h1, h2, _⟩ | ⟨_, h⟩)
          · exact absurd ⟨c2, h1, h2⟩ c1
          · exact h
        clear nt nt2 rr c1 K0
        go_wp2
        go_region_held3 (fun w' => w'.cell? ⟨w.heap.size, 0, none⟩ = some (.slice (some ⟨sb, 0, none⟩) n n) ∧ w'.cell? ⟨w.heap.size, 1, none⟩ = some (.slice so k k) ∧ w'.cell? ⟨sb, n - 1, none⟩ = some (.slice (ad (n - 1)) (dlen (S (n - 1))) (dlen (S (n - 1)))) ∧ w'.cell? ⟨sb, n - 2, none⟩ = some (.slice (ad (n - 2)) (dlen (S (n - 2))) (dlen (S (n - 2)))) ∧ w'.cell? ⟨w.heap.size + 1, 0, none⟩ = some (.int .u8 1)) (go_keep)
          (first | (go_at_call 113; refine (unhide K).mono ?_; rintro e w5 ⟨nb5, rfl, hnw0⟩; have hb5 := hnw0.b; have hnw := hide hnw0; clear hnw0; have i0 : w5.cell? ⟨w.heap.size, 0, none⟩ = some (.slice (some ⟨sb, 0, none⟩) n n) := (hb5.cell hl0).trans p0; have i1 : w5.cell? ⟨w.heap.size, 1, none⟩ = some (.slice so k k) := (hb5.cell hl0).trans p1; have i2 : w5.cell? ⟨sb, n - 1, none⟩ = some (.slice (ad (n - 1)) (dlen (S (n - 1))) (dlen (S (n - 1)))) := (hb5.cell hls).trans cw; have e0 : w5.cell? ⟨w.heap.size + 2, 0, none⟩ = some (.slice none 0 0) := (hb5.cell hl2).trans v0; have e1 : w5.cell? ⟨w.heap.size + 2, 1, none⟩ = some (.slice none 0 0) := (hb5.cell hl2).trans v1; have g0 : w5.frozen? ⟨w.heap.size + 2, 0, none⟩ = false := (hb5.frozen hl2).trans x0; have g1 : w5.frozen? ⟨w.heap.size + 2, 1, none⟩ = false := (hb5.frozen hl2).trans x1; have i4 : w5.cell? ⟨sb, n - 2, none⟩ = some (.slice (ad (n - 2)) (dlen (S (n - 2))) (dlen (S (n - 2)))) := (hb5.cell hls).trans cv; have i5 : w5.cell? ⟨w.heap.size + 1, 0, none⟩ = some (.int .u8 1) := (hb5.cell hl1).trans m0))
        go_wp2
        have rng := hide (range_put ((unhide R2).drew.keep hb5) (.slice (some ⟨sb, 0, none⟩) n n) (.slice (some ⟨nb5, 0, none⟩) (k + 1) (k + 1)))
        have fin := hide ((unhide hnw).put bw.drew (Nat.le_add_right _ 2) hl2 (.slice (some ⟨sb, 0, none⟩) n n) (.slice (some ⟨nb5, 0, none⟩) (k + 1) (k + 1)))
        refine bodyPost_ret (results_cell_at rfl _ _ (w.heap.size + 2) [.slice (some ⟨sb, 0, none⟩) n n, .slice (some ⟨nb5, 0, none⟩) (k + 1) (k + 1)] _ rfl (unhide rng) Taig.underlying102 rfl (by rw [Taig.size102]; rfl)) rfl ?_
        rw [unhide hst]
        exact ⟨_, _, _, rfl, (unhide HP).keep (unhide fin).b, (unhide fin).oup, (unhide fin).b, (unhide fin).avd⟩
      · clear c1
        have u0 := (unhide HM).2.2.1 0 (by decide)
        have u1 := (unhide HM).2.2.1 1 (by decide)
        simp only [Nat.zero_add, st2] at u0 u1
        have rng := hide (range_put (unhide R2) (.slice sa n n) (.slice (some ⟨nb, 0, none⟩) (k + 1) (k + 1)))
        have fin := hide ((unhide HM).no.put bb (Nat.le_add_right _ 2) hlt2 (.slice sa n n) (.slice (some ⟨nb, 0, none⟩) (k + 1) (k + 1)))
        skip
        go_wp2
        all_goals
          refine bodyPost_ret (results_cell_at rfl _ _ (w.heap.size + 2) [.slice sa n n, .slice (some ⟨nb, 0, none⟩) (k + 1) (k + 1)] _ rfl (unhide rng) Taig.underlying102 rfl (by rw [Taig.size102]; rfl)) rfl ?_
          rw [unhide hst]
          first
            | exact ⟨_, _, _, rfl, (unhide HP).keep (unhide fin).b, (unhide fin).oup, (unhide fin).b, (unhide fin).avd⟩
            | exact ⟨_, _, rfl, _, (unhide HP).keep (unhide fin).b, (unhide fin).oup, (unhide fin).b, (unhide fin).avd⟩
end Go.Proofs.Ygctai
