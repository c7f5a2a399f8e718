/-
  calc: multiplyBy, timesSmall.
-/
import Derived.Test.YgctaiQQ
namespace Go.Proofs.Ygctai
open Go.RowKit
set_option linter.unusedVariables false

set_option maxRecDepth 100000 in
set_option maxHeartbeats 1000000 in
/-- multiplyBy, the first part. -/
theorem multiplyBy_first (B : Nat) (a : Option Addr) (cap : Nat) (ks vs : Nat → Nat) (p : Option Addr) (la ca : Nat) (f : Nat → Nat) (w : World) (h : SOwn w B a 0 cap ks vs) (hs : Sl w p la f) (hf : Byt f) (h1 : la ≤ ca) (h2 : ca ≤ 9223372036854775807) (h3 : la ≤ 512)
    (ha : Apt a p) (hl : Lo w.heap.size p) (hB : B ≤ w.heap.size) :
    Calls Taig.prog 70 #[.slice a 0 cap, .slice p la ca] w fun e w' => ∃ a' cap', e = .returned (.slice a' 1 cap') ∧ SOwn w' B a' 1 cap' (upd ks 0 0) (upd vs 0 (val f la)) ∧ Below B w w' := by
  have hba := below_alloc w (.cells #[.int .u8 0, .slice p la ca] 74)
  have s1 : (w.alloc (.cells #[.int .u8 0, .slice p la ca] 74)).heap.size = w.heap.size + 1 := by simp
  have q0 : (w.alloc (.cells #[.int .u8 0, .slice p la ca] 74)).cell? ⟨w.heap.size, 0, none⟩ = some (.int .u8 0) := by rw [World.cell?_alloc_at _ _ _ _ rfl]; rfl
  have q1 : (w.alloc (.cells #[.int .u8 0, .slice p la ca] 74)).cell? ⟨w.heap.size, 1, none⟩ = some (.slice p la ca) := by rw [World.cell?_alloc_at _ _ _ _ rfl]; rfl
  obtain ⟨a', cap', w', hr, ho, hg, hw⟩ := (h.keep hba).app1 w.heap.size 0 (val f la) _ _ q0 q1 (opx_push _ a p la ca f (hs.keep hba) hf h1 h2 h3 ha (hl.mono (by omega))) (by omega) (by omega)
  have bB : Below B w w' := hg.below (hba.mono hB) (by omega) h.hi
  have HO := hide ho
  clear ho hg hw h hs
  go_enter Taig.func70, Taig.ntmps70
  go_wp2_with (at_builtin; refine wpList_append_run rfl _ _ 43 rfl _ _ _ rfl rfl hr ?_)
  go_ret
  exact ⟨_, _, rfl, unhide HO, bB⟩

set_option maxRecDepth 100000 in
set_option maxHeartbeats 1000000 in
/-- multiplyBy, a further part. -/
theorem multiplyBy_more (B : Nat) (a : Option Addr) (n cap : Nat) (ks vs : Nat → Nat) (p : Option Addr) (la ca : Nat) (f : Nat → Nat) (w : World) (h : SOwn w B a n cap ks vs) (hs : Sl w p la f) (hf : Byt f) (h1 : la ≤ ca) (h2 : ca ≤ 9223372036854775807) (h3 : la ≤ 512)
    (ha : Apt a p) (hl : Lo w.heap.size p) (hB : B ≤ w.heap.size) (h0 : 0 < n) (hn : n ≤ 1000000) :
    Calls Taig.prog 70 #[.slice a n cap, .slice p la ca] w fun e w' => ∃ a' cap', e = .returned (.slice a' (n + 2) cap') ∧ SOwn w' B a' (n + 2) cap' (upd (upd ks n 0) (n + 1) 1) (upd (upd vs n (val f la)) (n + 1) 0) ∧ Below B w w' := by
  have hba := below_alloc w (.cells #[.int .u8 0, .slice p la ca] 74)
  have s1 : (w.alloc (.cells #[.int .u8 0, .slice p la ca] 74)).heap.size = w.heap.size + 1 := by simp
  have q0 : (w.alloc (.cells #[.int .u8 0, .slice p la ca] 74)).cell? ⟨w.heap.size, 0, none⟩ = some (.int .u8 0) := by rw [World.cell?_alloc_at _ _ _ _ rfl]; rfl
  have q1 : (w.alloc (.cells #[.int .u8 0, .slice p la ca] 74)).cell? ⟨w.heap.size, 1, none⟩ = some (.slice p la ca) := by rw [World.cell?_alloc_at _ _ _ _ rfl]; rfl
  obtain ⟨a1, cap1, w1, hr, ho, hg, hw⟩ := (h.keep hba).app1 w.heap.size 0 (val f la) _ _ q0 q1 (opx_push _ a p la ca f (hs.keep hba) hf h1 h2 h3 ha (hl.mono (by omega))) (by omega) (by omega)
  have bB : Below B w w1 := hg.below (hba.mono hB) (by omega) h.hi
  have s2 := bB.size
  have hba2 := below_alloc w1 (.cells #[.int .u8 1, .slice none 0 0] 74)
  have s3 : (w1.alloc (.cells #[.int .u8 1, .slice none 0 0] 74)).heap.size = w1.heap.size + 1 := by simp
  have p0 : (w1.alloc (.cells #[.int .u8 1, .slice none 0 0] 74)).cell? ⟨w1.heap.size, 0, none⟩ = some (.int .u8 1) := by rw [World.cell?_alloc_at _ _ _ _ rfl]; rfl
  have p1 : (w1.alloc (.cells #[.int .u8 1, .slice none 0 0] 74)).cell? ⟨w1.heap.size, 1, none⟩ = some (.slice none 0 0) := by rw [World.cell?_alloc_at _ _ _ _ rfl]; rfl
  obtain ⟨a2, cap2, w2, hr2, ho2, hg2, hw2⟩ := (ho.keep hba2).app1 w1.heap.size 1 0 _ _ p0 p1 (opx_nil _ a1 1 (.inl rfl)) (by omega) (by omega)
  have bB2 : Below B w w2 := hg2.below (bB.trans (hba2.mono (by omega))) (by omega) ho.hi
  have e0 : ((n : Int) == 0) = false := by simp; omega
  have HO := hide ho2
  clear ho ho2 hg hg2 hw hw2 h hs
  go_enter Taig.func70, Taig.ntmps70
  go_wp2_with (at_builtin; first | refine wpList_append_run rfl _ _ 43 rfl _ _ _ rfl rfl hr ?_ | refine wpList_append_run rfl _ _ 43 rfl _ _ _ rfl rfl hr2 ?_)
  go_ret
  exact ⟨_, _, rfl, unhide HO, bB2⟩
end Go.Proofs.Ygctai
