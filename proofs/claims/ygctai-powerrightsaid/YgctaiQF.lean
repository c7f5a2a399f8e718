/-
  calc: Step, of Push, Sqr and Mul.
-/
import Derived.Test.YgctaiQE
import Derived.Deep.RegionWith
import Derived.Deep.DrawnRows
namespace Go.Proofs.Ygctai
open Go.RowKit
set_option linter.unusedVariables false
attribute [local go_sem ↓] Go.wp_at_zero Go.wp_at_succ

/-- The value of an Op. -/
def opv (k : Nat) (a : Option Addr) (la ca : Nat) : Value := .agg #[.int .u8 k, .slice a la ca]

structure MsOk (s : Ms) : Prop where
  n : s.n ≤ 16
  o : s.o ≤ 1024
  l : ∀ i, i < s.n → dlen (s.S i) ≤ 1024

set_option maxRecDepth 100000 in
set_option maxHeartbeats 1000000 in
theorem step_push (E : Nat) (a : Option Addr) (la ca : Nat) (f : Nat → Nat) (B mb n : Nat) (S : Nat → Nat) (k : Nat) (w : World) (hE : E < 4) (h : Mc w B mb ⟨n, S, k⟩) (hn : n ≤ 16) (hk : k ≤ 1024) (hl : ∀ i, i < n → dlen (S i) ≤ 1024)
    (hs : Sl w a la f) (hf : Byt f) (h1 : la ≤ ca) (h2 : ca ≤ 9223372036854775807) (h3 : la ≤ 512) :
    Calls Taig.prog 97 #[.int .u8 (E : Int), .pointer (some ⟨mb, 0, none⟩), .agg #[.int .u8 0, .slice a la ca]] w fun e w' => e = .returned (.tuple #[]) ∧ Mc w' B mb (stp 0 (val f la) ⟨n, S, k⟩) ∧ Below B w w' := by
  have hba := below_alloc w (.cells #[.int .u8 0, .slice a la ca] 74)
  have hBs : B ≤ w.heap.size := by
    obtain ⟨_, _, _, _, _, hx⟩ := h
    have := hx.hB; have := hx.hm; omega
  have m1 := h.keep hba
  have sl1 := hs.keep hba
  have q0 : (w.alloc (.cells #[.int .u8 0, .slice a la ca] 74)).cell? ⟨w.heap.size, 0, none⟩ = some (.int .u8 0) := by rw [World.cell?_alloc_at _ _ _ _ rfl]; rfl
  have q1 : (w.alloc (.cells #[.int .u8 0, .slice a la ca] 74)).cell? ⟨w.heap.size, 1, none⟩ = some (.slice a la ca) := by rw [World.cell?_alloc_at _ _ _ _ rfl]; rfl
  have hs1 : w.heap.size < (w.alloc (.cells #[.int .u8 0, .slice a la ca] 74)).heap.size := by simp
  have c := hide (check_any B mb n S k (w.alloc (.cells #[.int .u8 0, .slice a la ca] 74)) m1 hn hl)
  have M1 := hide m1
  have rm := hide (room_push (w.alloc (.cells #[.int .u8 0, .slice a la ca] 74)))
  clear m1 h hs hl
  go_enter Taig.func97, Taig.ntmps97
  go_wp2_with fail
  generalize (w.alloc (.cells #[.int .u8 0, .slice a la ca] 74)) = w1 at *
  refine (unhide rm).mono ?_
  rintro e w' ⟨rfl, rfl⟩
  go_wp2_with fail
  refine (unhide c).mono ?_
  rintro e w2 ⟨rfl, hb2⟩
  have m2 := Mc.keep (unhide M1) hb2
  have sl2 := sl1.keep hb2
  obtain ⟨_, _, _, _, _, hx⟩ := m2
  have c0 := hx.c0
  have M2 : Hid (Mc w2 B mb ⟨n, S, k⟩) := ⟨_, _, _, _, _, hx⟩
  have b2 : Below B w w2 := (hba.mono hBs).trans (hb2.mono (by omega))
  have s2 := hb2.size
  have r0 : w2.cell? ⟨w.heap.size, 0, none⟩ = some (.int .u8 0) := by rw [hb2.cell hs1]; exact q0
  have r1 : w2.cell? ⟨w.heap.size, 1, none⟩ = some (.slice a la ca) := by rw [hb2.cell hs1]; exact q1
  clear hx q0 q1 hba
  by_cases c1 : n < 16
  · have K := calcTake_any a la ca f w2 sl2 hf h1 h2
    rw [Nat.min_eq_left h3] at K
    have HK := hide K
    have P : Hid (∀ d w3, Nt w3 w2.heap.size d (val f la) → Below w2.heap.size w2 w3 → _) := fun d w3 hd hb3 => push_any B w2.heap.size mb n S k d (val f la) w3 (Mch.keep (unhide M2) hb3) hd (by omega)
    clear K
    have hst : Hid (stp 0 (val f la) ⟨n, S, k⟩ = ⟨n + 1, upd S n (val f la), k⟩) := by unfold Hid stp; simp only [if_pos, c1]
    go_wp2_with fail
    refine (unhide HK).mono ?_
    rintro e w3 ⟨d, rfl, hd, hb3⟩
    go_wp2_with fail
    refine (unhide P d w3 hd hb3).mono ?_
    rintro e w4 ⟨rfl, hm4, hb4⟩
    go_wp2
    go_end0
    exact ⟨rfl, by rw [unhide hst]; exact hm4, b2.trans (hb3.mono (by omega)) |>.trans hb4⟩
  · have P := hide (put_any B mb n S k w2 (unhide M2) (by omega))
    have hst : Hid (stp 0 (val f la) ⟨n, S, k⟩ = ⟨n, S, k + 1⟩) := by unfold Hid stp; simp only [if_pos, c1, if_false]
    go_wp2_with fail
    refine (unhide P).mono ?_
    rintro e w4 ⟨rfl, hm4, hb4⟩
    go_wp2
    ((try simp only [Exit.inBlock, Exit.then]); refine bodyPost_ret (results_none rfl _ _ _) rfl ?_)
    exact ⟨rfl, by rw [unhide hst]; exact hm4, b2.trans hb4⟩

set_option maxRecDepth 100000 in
set_option maxHeartbeats 2000000 in
theorem step_sqr (E v : Nat) (a : Option Addr) (la ca : Nat) (B mb n : Nat) (S : Nat → Nat) (k : Nat) (w : World) (hE : E < 4) (h : Mc w B mb ⟨n, S, k⟩) (hn : n ≤ 16) (hk : k ≤ 1024) (hl : ∀ i, i < n → dlen (S i) ≤ 1024) :
    Calls Taig.prog 97 #[.int .u8 (E : Int), .pointer (some ⟨mb, 0, none⟩), .agg #[.int .u8 4, .slice a la ca]] w fun e w' => e = .returned (.tuple #[]) ∧ Mc w' B mb (stp 4 v ⟨n, S, k⟩) ∧ Below B w w' := by
  have hba := below_alloc w (.cells #[.int .u8 4, .slice a la ca] 74)
  have hBs : B ≤ w.heap.size := by
    obtain ⟨_, _, _, _, _, hx⟩ := h
    have := hx.hB; have := hx.hm; omega
  have m1 := h.keep hba
  have q0 : (w.alloc (.cells #[.int .u8 4, .slice a la ca] 74)).cell? ⟨w.heap.size, 0, none⟩ = some (.int .u8 4) := by rw [World.cell?_alloc_at _ _ _ _ rfl]; rfl
  have q1 : (w.alloc (.cells #[.int .u8 4, .slice a la ca] 74)).cell? ⟨w.heap.size, 1, none⟩ = some (.slice a la ca) := by rw [World.cell?_alloc_at _ _ _ _ rfl]; rfl
  have hs1 : w.heap.size < (w.alloc (.cells #[.int .u8 4, .slice a la ca] 74)).heap.size := by simp
  have c := hide (check_any B mb n S k (w.alloc (.cells #[.int .u8 4, .slice a la ca] 74)) m1 hn hl)
  have M1 := hide m1
  have rm := hide (room_sqr (w.alloc (.cells #[.int .u8 4, .slice a la ca] 74)))
  have HL := hide hl
  clear m1 h hl
  go_enter Taig.func97, Taig.ntmps97
  go_wp2_with fail
  generalize (w.alloc (.cells #[.int .u8 4, .slice a la ca] 74)) = w1 at *
  refine (unhide rm).mono ?_
  rintro e w' ⟨rfl, rfl⟩
  go_wp2_with fail
  refine (unhide c).mono ?_
  rintro e w2 ⟨rfl, hb2⟩
  have m2 := Mc.keep (unhide M1) hb2
  obtain ⟨sa, cap, oa, oc, ad, hx0⟩ := m2
  have hx : Mcx w2 B w2.heap.size mb n S k sa cap oa oc ad := hx0
  clear hx0
  have c0 := hx.c0
  have HX := hide hx
  have M2 : Hid (Mc w2 B mb ⟨n, S, k⟩) := ⟨_, _, _, _, _, hx⟩
  have b2 : Below B w w2 := (hba.mono hBs).trans (hb2.mono (by omega))
  have s2 := hb2.size
  have r0 : w2.cell? ⟨w.heap.size, 0, none⟩ = some (.int .u8 4) := by rw [hb2.cell hs1]; exact q0
  have r1 : w2.cell? ⟨w.heap.size, 1, none⟩ = some (.slice a la ca) := by rw [hb2.cell hs1]; exact q1
  clear hx q0 q1 hba
  by_cases c1 : 1 ≤ n
  · have M3 : Mc w2.drew B mb ⟨n, S, k⟩ := (unhide M2).keep (Below.refl _ _).drew
    have hb3 : Below B w w2.drew := b2.drew
    obtain ⟨sb, cc, rfl, rr, hc, hcap⟩ := (unhide HX).at (by omega)
    have ci := rr (n - 1) (by omega)
    rw [hc (n - 1) (by omega), Nat.zero_add] at ci
    have l1 := unhide HL (n - 1) (by omega)
    have nt : Nt w2.drew 0 (ad (n - 1)) (S (n - 1)) := (((unhide HX).en (n - 1) (by omega)).mono (Nat.zero_le _)).drew
    have KM : Hid (Calls Taig.prog 120 #[.pointer (some ⟨mb, 0, none⟩), .int .u8 (E : Int), .int .i64 ((1 : Nat) : Int), .slice (ad (n - 1)) (dlen (S (n - 1))) (dlen (S (n - 1))), .slice (ad (n - 1)) (dlen (S (n - 1))) (dlen (S (n - 1)))] w2.drew
        fun e w' => e = .returned (.tuple #[]) ∧ Mc w' B mb (stp 4 v ⟨n, S, k⟩) ∧ Below B w2.drew w') := by
      unfold Hid stp
      simp only [show ¬ (4 : Nat) = 0 by decide, if_false, if_true]
      by_cases c2 : dlen (S (n - 1)) ≤ 512
      · rw [if_pos ⟨c1, c2⟩]
        have := multiply_any E B mb n 1 S k (ad (n - 1)) (ad (n - 1)) (S (n - 1)) (S (n - 1)) w2.drew M3 hE nt nt c2 c2 hn (by decide) c1 (by have : w2.drew.heap.size = w2.heap.size := rfl; omega)
        rw [show n - 1 + 1 = n by omega] at this
        exact this
      · rw [if_neg (by omega)]
        exact multiply_no E B mb n 1 S k (ad (n - 1)) (ad (n - 1)) (S (n - 1)) (S (n - 1)) w2.drew M3 (by omega) (.inl (by omega)) l1 l1
    have i1 : IntKind.i64.wrap ((n : Int) - 1) = ((n - 1 : Nat) : Int) := by rw [IntKind.wrap_i64]; omega
    have i2 : (0 : Int) ≤ ((n - 1 : Nat) : Int) := by omega
    have i3 : ((n - 1 : Nat) : Int) < (n : Int) := by omega
    clear nt hc rr M3
    generalize dlen (S (n - 1)) = l at *
    generalize ad (n - 1) = ad1 at *
    generalize n - 1 = n1 at *
    go_wp2
    go_region_with (go_at_call 120; refine (unhide KM).mono ?_; rintro e w4 ⟨rfl, hm4, hb4⟩)
    all_goals
      go_wp2
      go_end0
      exact ⟨rfl, hm4, hb3.trans hb4⟩
  · have P := hide (put_any B mb n S k w2 (unhide M2) (by omega))
    have hst : Hid (stp 4 v ⟨n, S, k⟩ = ⟨n, S, k + 1⟩) := by
      unfold Hid stp
      simp only [show ¬ (4 : Nat) = 0 by decide, if_false, if_true]
      rw [if_neg (by omega)]
    go_wp2_with fail
    refine (unhide P).mono ?_
    rintro e w4 ⟨rfl, hm4, hb4⟩
    go_wp2
    ((try simp only [Exit.inBlock, Exit.then]); refine bodyPost_ret (results_none rfl _ _ _) rfl ?_)
    exact ⟨rfl, by rw [unhide hst]; exact hm4, b2.trans hb4⟩

set_option maxRecDepth 100000 in
set_option maxHeartbeats 2000000 in
theorem step_mul (E v : Nat) (a : Option Addr) (la ca : Nat) (B mb n : Nat) (S : Nat → Nat) (k : Nat) (w : World) (hE : E < 4) (h : Mc w B mb ⟨n, S, k⟩) (hn : n ≤ 16) (hk : k ≤ 1024) (hl : ∀ i, i < n → dlen (S i) ≤ 1024) :
    Calls Taig.prog 97 #[.int .u8 (E : Int), .pointer (some ⟨mb, 0, none⟩), .agg #[.int .u8 1, .slice a la ca]] w fun e w' => e = .returned (.tuple #[]) ∧ Mc w' B mb (stp 1 v ⟨n, S, k⟩) ∧ Below B w w' := by
  have hba := below_alloc w (.cells #[.int .u8 1, .slice a la ca] 74)
  have hBs : B ≤ w.heap.size := by
    obtain ⟨_, _, _, _, _, hx⟩ := h
    have := hx.hB; have := hx.hm; omega
  have m1 := h.keep hba
  have q0 : (w.alloc (.cells #[.int .u8 1, .slice a la ca] 74)).cell? ⟨w.heap.size, 0, none⟩ = some (.int .u8 1) := by rw [World.cell?_alloc_at _ _ _ _ rfl]; rfl
  have q1 : (w.alloc (.cells #[.int .u8 1, .slice a la ca] 74)).cell? ⟨w.heap.size, 1, none⟩ = some (.slice a la ca) := by rw [World.cell?_alloc_at _ _ _ _ rfl]; rfl
  have hs1 : w.heap.size < (w.alloc (.cells #[.int .u8 1, .slice a la ca] 74)).heap.size := by simp
  have c := hide (check_any B mb n S k (w.alloc (.cells #[.int .u8 1, .slice a la ca] 74)) m1 hn hl)
  have M1 := hide m1
  have rm := hide (room_mul (w.alloc (.cells #[.int .u8 1, .slice a la ca] 74)))
  have HL := hide hl
  clear m1 h hl
  go_enter Taig.func97, Taig.ntmps97
  go_wp2_with fail
  generalize (w.alloc (.cells #[.int .u8 1, .slice a la ca] 74)) = w1 at *
  refine (unhide rm).mono ?_
  rintro e w' ⟨rfl, rfl⟩
  go_wp2_with fail
  refine (unhide c).mono ?_
  rintro e w2 ⟨rfl, hb2⟩
  have m2 := Mc.keep (unhide M1) hb2
  obtain ⟨sa, cap, oa, oc, ad, hx0⟩ := m2
  have hx : Mcx w2 B w2.heap.size mb n S k sa cap oa oc ad := hx0
  clear hx0
  have c0 := hx.c0
  have HX := hide hx
  have M2 : Hid (Mc w2 B mb ⟨n, S, k⟩) := ⟨_, _, _, _, _, hx⟩
  have b2 : Below B w w2 := (hba.mono hBs).trans (hb2.mono (by omega))
  have s2 := hb2.size
  have r0 : w2.cell? ⟨w.heap.size, 0, none⟩ = some (.int .u8 1) := by rw [hb2.cell hs1]; exact q0
  have r1 : w2.cell? ⟨w.heap.size, 1, none⟩ = some (.slice a la ca) := by rw [hb2.cell hs1]; exact q1
  clear hx q0 q1 hba
  by_cases c1 : 2 ≤ n
  · have M3 : Mc w2.drew B mb ⟨n, S, k⟩ := (unhide M2).keep (Below.refl _ _).drew
    have hb3 : Below B w w2.drew := b2.drew
    obtain ⟨sb, cc, rfl, rr, hc, hcap⟩ := (unhide HX).at (by omega)
    have ci := rr (n - 1) (by omega)
    rw [hc (n - 1) (by omega), Nat.zero_add] at ci
    have cj := rr (n - 2) (by omega)
    rw [hc (n - 2) (by omega), Nat.zero_add] at cj
    have l1 := unhide HL (n - 1) (by omega)
    have l2 := unhide HL (n - 2) (by omega)
    have nt : Nt w2.drew 0 (ad (n - 1)) (S (n - 1)) := (((unhide HX).en (n - 1) (by omega)).mono (Nat.zero_le _)).drew
    have nt2 : Nt w2.drew 0 (ad (n - 2)) (S (n - 2)) := (((unhide HX).en (n - 2) (by omega)).mono (Nat.zero_le _)).drew
    have KM : Hid (Calls Taig.prog 120 #[.pointer (some ⟨mb, 0, none⟩), .int .u8 (E : Int), .int .i64 ((2 : Nat) : Int), .slice (ad (n - 2)) (dlen (S (n - 2))) (dlen (S (n - 2))), .slice (ad (n - 1)) (dlen (S (n - 1))) (dlen (S (n - 1)))] w2.drew
        fun e w' => e = .returned (.tuple #[]) ∧ Mc w' B mb (stp 1 v ⟨n, S, k⟩) ∧ Below B w2.drew w') := by
      unfold Hid stp
      simp only [show ¬ (1 : Nat) = 0 by decide, show ¬ (1 : Nat) = 4 by decide, if_false]
      by_cases c2 : dlen (S (n - 2)) ≤ 512 ∧ dlen (S (n - 1)) ≤ 512
      · rw [if_pos ⟨c1, c2⟩]
        have := multiply_any E B mb n 2 S k (ad (n - 2)) (ad (n - 1)) (S (n - 2)) (S (n - 1)) w2.drew M3 hE nt2 nt c2.1 c2.2 hn (by decide) c1 (by have : w2.drew.heap.size = w2.heap.size := rfl; omega)
        rw [show n - 2 + 1 = n - 1 by omega] at this
        exact this
      · rw [if_neg (by omega)]
        exact multiply_no E B mb n 2 S k (ad (n - 2)) (ad (n - 1)) (S (n - 2)) (S (n - 1)) w2.drew M3 (by omega) (by omega) l2 l1
    have i1 : IntKind.i64.wrap ((n : Int) - 1) = ((n - 1 : Nat) : Int) := by rw [IntKind.wrap_i64]; omega
    have i2 : (0 : Int) ≤ ((n - 1 : Nat) : Int) := by omega
    have i3 : ((n - 1 : Nat) : Int) < (n : Int) := by omega
    have j1 : IntKind.i64.wrap ((n : Int) - 2) = ((n - 2 : Nat) : Int) := by rw [IntKind.wrap_i64]; omega
    have j2 : (0 : Int) ≤ ((n - 2 : Nat) : Int) := by omega
    have j3 : ((n - 2 : Nat) : Int) < (n : Int) := by omega
    clear nt nt2 hc rr M3
    generalize dlen (S (n - 1)) = l at *
    generalize ad (n - 1) = ad1 at *
    generalize n - 1 = n1 at *
    generalize dlen (S (n - 2)) = ll at *
    generalize ad (n - 2) = ad2 at *
    generalize n - 2 = n2 at *
    go_wp2
    go_region_with (go_at_call 120; refine (unhide KM).mono ?_; rintro e w4 ⟨rfl, hm4, hb4⟩)
    all_goals
      go_wp2
      go_end0
      exact ⟨rfl, hm4, hb3.trans hb4⟩
  · have P := hide (put_any B mb n S k w2 (unhide M2) (by omega))
    have hst : Hid (stp 1 v ⟨n, S, k⟩ = ⟨n, S, k + 1⟩) := by
      unfold Hid stp
      simp only [show ¬ (1 : Nat) = 0 by decide, show ¬ (1 : Nat) = 4 by decide, if_false]
      rw [if_neg (by omega)]
    go_wp2_with fail
    refine (unhide P).mono ?_
    rintro e w4 ⟨rfl, hm4, hb4⟩
    go_wp2
    ((try simp only [Exit.inBlock, Exit.then]); refine bodyPost_ret (results_none rfl _ _ _) rfl ?_)
    exact ⟨rfl, by rw [unhide hst]; exact hm4, b2.trans hb4⟩
end Go.Proofs.Ygctai
