/-
  'trim', 'strip', 'normal': a without the zero digits at the top: the same memory.
-/
import Derived.Test.YgctaiBase
namespace Go.Proofs.Ygctai
open Go.RowKit

theorem trim_end {f : Nat → Nat} {m n : Nat} (hf : Byt f) (hm : m ≤ n) (hz : ∀ i, m ≤ i → i < n → f i = 0) (ht : 0 < m → f (m - 1) ≠ 0) : dlen (val f n) = m := by
  rw [val_high hm hz]; exact norm_dlen hf.lt ht

set_option maxHeartbeats 400000 in
theorem trim_any (a : Option Addr) (n cap : Nat) (f : Nat → Nat) (w : World) (hs : Sl w a n f) (hf : Byt f) (hn : n ≤ cap) (hc : cap ≤ 9223372036854775807) :
    Calls Taig.prog 46 #[.slice a n cap] w fun e w' => e = .returned (.slice (nz (val f n) a) (dlen (val f n)) (dlen (val f n))) ∧ w = w' := by
  go_enter Taig.func46, Taig.ntmps46
  go_wp2
  go_loop [3] (fun t => ∃ m : Nat, m ≤ n ∧ (∀ i, m ≤ i → i < n → f i = 0) ∧ t = .int .i64 m) (fun t => (intOf t).toNat)
  case atStart => exact ⟨n, Nat.le_refl _, fun i h1 h2 => by omega, rfl⟩
  case round =>
    obtain ⟨m, hm, hz, rfl⟩ := hrel
    by_cases h0 : m = 0
    · subst h0
      have hd := trim_end hf hm hz (by omega)
      have hV := dlen_eq_zero.1 hd
      go_wp2
      go_ret
      exact ⟨rfl, rfl⟩
    · obtain ⟨b, off, rfl, hrow⟩ := hs (by omega)
      have hcm := hrow (m-1) (by omega)
      rw [oct_at] at hcm
      by_cases h1 : f (m-1) = 0
      · rw [h1] at hcm
        go_wp2
        go_round
        case rel => exact ⟨m-1, by omega, fun i a b => by
          rcases Nat.lt_or_ge i m with h | h
          · have : i = m-1 := by omega
            rw [this]; exact h1
          · exact hz i h b, by go_num⟩
        case measure => simp [intOf]; omega
      · have hd := trim_end hf hm hz (fun _ => h1)
        have hV : 0 < val f n := by
          rcases Nat.eq_zero_or_pos (val f n) with e | e
          · rw [e] at hd; simp [dlen_zero] at hd; omega
          · exact e
        have HD := hide hd; clear hd
        go_wp2
        go_ret
        exact ⟨by rw [unhide HD, nz_pos hV]; rfl, rfl⟩

set_option maxHeartbeats 400000 in
theorem strip_any (a : Option Addr) (n cap : Nat) (f : Nat → Nat) (w : World) (hs : Sl w a n f) (hf : Byt f) (hn : n ≤ cap) (hc : cap ≤ 9223372036854775807) :
    Calls Taig.prog 48 #[.slice a n cap] w fun e w' => e = .returned (.slice (nz (val f n) a) (dlen (val f n)) (dlen (val f n))) ∧ w = w' := by
  go_enter Taig.func48, Taig.ntmps48
  go_wp2
  go_loop [3] (fun t => ∃ m : Nat, m ≤ n ∧ (∀ i, m ≤ i → i < n → f i = 0) ∧ t = .int .i64 m) (fun t => (intOf t).toNat)
  case atStart => exact ⟨n, Nat.le_refl _, fun i h1 h2 => by omega, rfl⟩
  case round =>
    obtain ⟨m, hm, hz, rfl⟩ := hrel
    by_cases h0 : m = 0
    · subst h0
      have hd := trim_end hf hm hz (by omega)
      have hV := dlen_eq_zero.1 hd
      go_wp2
      go_ret
      exact ⟨rfl, rfl⟩
    · obtain ⟨b, off, rfl, hrow⟩ := hs (by omega)
      have hcm := hrow (m-1) (by omega)
      rw [oct_at] at hcm
      by_cases h1 : f (m-1) = 0
      · rw [h1] at hcm
        go_wp2
        go_round
        case rel => exact ⟨m-1, by omega, fun i a b => by
          rcases Nat.lt_or_ge i m with h | h
          · have : i = m-1 := by omega
            rw [this]; exact h1
          · exact hz i h b, by go_num⟩
        case measure => simp [intOf]; omega
      · have hd := trim_end hf hm hz (fun _ => h1)
        have hV : 0 < val f n := by
          rcases Nat.eq_zero_or_pos (val f n) with e | e
          · rw [e] at hd; simp [dlen_zero] at hd; omega
          · exact e
        have HD := hide hd; clear hd
        go_wp2
        go_ret
        exact ⟨by rw [unhide HD, nz_pos hV]; rfl, rfl⟩

set_option maxHeartbeats 400000 in
theorem newtonNormal_any (a : Option Addr) (n cap : Nat) (f : Nat → Nat) (w : World) (hs : Sl w a n f) (hf : Byt f) (hn : n ≤ cap) (hc : cap ≤ 9223372036854775807) :
    Calls Taig.prog 49 #[.slice a n cap] w fun e w' => e = .returned (.slice (nz (val f n) a) (dlen (val f n)) (dlen (val f n))) ∧ w = w' := by
  go_enter Taig.func49, Taig.ntmps49
  go_wp2
  go_loop [3] (fun t => ∃ m : Nat, m ≤ n ∧ (∀ i, m ≤ i → i < n → f i = 0) ∧ t = .int .i64 m) (fun t => (intOf t).toNat)
  case atStart => exact ⟨n, Nat.le_refl _, fun i h1 h2 => by omega, rfl⟩
  case round =>
    obtain ⟨m, hm, hz, rfl⟩ := hrel
    by_cases h0 : m = 0
    · subst h0
      have hd := trim_end hf hm hz (by omega)
      have hV := dlen_eq_zero.1 hd
      go_wp2
      go_ret
      exact ⟨rfl, rfl⟩
    · obtain ⟨b, off, rfl, hrow⟩ := hs (by omega)
      have hcm := hrow (m-1) (by omega)
      rw [oct_at] at hcm
      by_cases h1 : f (m-1) = 0
      · rw [h1] at hcm
        go_wp2
        go_round
        case rel => exact ⟨m-1, by omega, fun i a b => by
          rcases Nat.lt_or_ge i m with h | h
          · have : i = m-1 := by omega
            rw [this]; exact h1
          · exact hz i h b, by go_num⟩
        case measure => simp [intOf]; omega
      · have hd := trim_end hf hm hz (fun _ => h1)
        have hV : 0 < val f n := by
          rcases Nat.eq_zero_or_pos (val f n) with e | e
          · rw [e] at hd; simp [dlen_zero] at hd; omega
          · exact e
        have HD := hide hd; clear hd
        go_wp2
        go_ret
        exact ⟨by rw [unhide HD, nz_pos hV]; rfl, rfl⟩

set_option maxHeartbeats 400000 in
theorem nlongNormal_any (a : Option Addr) (n cap : Nat) (f : Nat → Nat) (w : World) (hs : Sl w a n f) (hf : Byt f) (hn : n ≤ cap) (hc : cap ≤ 9223372036854775807) :
    Calls Taig.prog 71 #[.slice a n cap] w fun e w' => e = .returned (.slice (nz (val f n) a) (dlen (val f n)) (dlen (val f n))) ∧ w = w' := by
  go_enter Taig.func71, Taig.ntmps71
  go_wp2
  go_loop [3] (fun t => ∃ m : Nat, m ≤ n ∧ (∀ i, m ≤ i → i < n → f i = 0) ∧ t = .int .i64 m) (fun t => (intOf t).toNat)
  case atStart => exact ⟨n, Nat.le_refl _, fun i h1 h2 => by omega, rfl⟩
  case round =>
    obtain ⟨m, hm, hz, rfl⟩ := hrel
    by_cases h0 : m = 0
    · subst h0
      have hd := trim_end hf hm hz (by omega)
      have hV := dlen_eq_zero.1 hd
      go_wp2
      go_ret
      exact ⟨rfl, rfl⟩
    · obtain ⟨b, off, rfl, hrow⟩ := hs (by omega)
      have hcm := hrow (m-1) (by omega)
      rw [oct_at] at hcm
      by_cases h1 : f (m-1) = 0
      · rw [h1] at hcm
        go_wp2
        go_round
        case rel => exact ⟨m-1, by omega, fun i a b => by
          rcases Nat.lt_or_ge i m with h | h
          · have : i = m-1 := by omega
            rw [this]; exact h1
          · exact hz i h b, by go_num⟩
        case measure => simp [intOf]; omega
      · have hd := trim_end hf hm hz (fun _ => h1)
        have hV : 0 < val f n := by
          rcases Nat.eq_zero_or_pos (val f n) with e | e
          · rw [e] at hd; simp [dlen_zero] at hd; omega
          · exact e
        have HD := hide hd; clear hd
        go_wp2
        go_ret
        exact ⟨by rw [unhide HD, nz_pos hV]; rfl, rfl⟩
set_option maxHeartbeats 400000 in
theorem mlongStrip_any (a : Option Addr) (n cap : Nat) (f : Nat → Nat) (w : World) (hs : Sl w a n f) (hf : Byt f) (hn : n ≤ cap) (hc : cap ≤ 9223372036854775807) :
    Calls Taig.prog 102 #[.slice a n cap] w fun e w' => e = .returned (.slice (nz (val f n) a) (dlen (val f n)) (dlen (val f n))) ∧ w = w' := by
  go_enter Taig.func102, Taig.ntmps102
  go_wp2
  go_loop [3] (fun t => ∃ m : Nat, m ≤ n ∧ (∀ i, m ≤ i → i < n → f i = 0) ∧ t = .int .i64 m) (fun t => (intOf t).toNat)
  case atStart => exact ⟨n, Nat.le_refl _, fun i h1 h2 => by omega, rfl⟩
  case round =>
    obtain ⟨m, hm, hz, rfl⟩ := hrel
    by_cases h0 : m = 0
    · subst h0
      have hd := trim_end hf hm hz (by omega)
      have hV := dlen_eq_zero.1 hd
      go_wp2
      go_ret
      exact ⟨rfl, rfl⟩
    · obtain ⟨b, off, rfl, hrow⟩ := hs (by omega)
      have hcm := hrow (m-1) (by omega)
      rw [oct_at] at hcm
      by_cases h1 : f (m-1) = 0
      · rw [h1] at hcm
        go_wp2
        go_round
        case rel => exact ⟨m-1, by omega, fun i a b => by
          rcases Nat.lt_or_ge i m with h | h
          · have : i = m-1 := by omega
            rw [this]; exact h1
          · exact hz i h b, by go_num⟩
        case measure => simp [intOf]; omega
      · have hd := trim_end hf hm hz (fun _ => h1)
        have hV : 0 < val f n := by
          rcases Nat.eq_zero_or_pos (val f n) with e | e
          · rw [e] at hd; simp [dlen_zero] at hd; omega
          · exact e
        have HD := hide hd; clear hd
        go_wp2
        go_ret
        exact ⟨by rw [unhide HD, nz_pos hV]; rfl, rfl⟩

set_option maxHeartbeats 400000 in
theorem mkaraNormal_any (a : Option Addr) (n cap : Nat) (f : Nat → Nat) (w : World) (hs : Sl w a n f) (hf : Byt f) (hn : n ≤ cap) (hc : cap ≤ 9223372036854775807) :
    Calls Taig.prog 165 #[.slice a n cap] w fun e w' => e = .returned (.slice (nz (val f n) a) (dlen (val f n)) (dlen (val f n))) ∧ w = w' := by
  go_enter Taig.func165, Taig.ntmps165
  go_wp2
  go_loop [3] (fun t => ∃ m : Nat, m ≤ n ∧ (∀ i, m ≤ i → i < n → f i = 0) ∧ t = .int .i64 m) (fun t => (intOf t).toNat)
  case atStart => exact ⟨n, Nat.le_refl _, fun i h1 h2 => by omega, rfl⟩
  case round =>
    obtain ⟨m, hm, hz, rfl⟩ := hrel
    by_cases h0 : m = 0
    · subst h0
      have hd := trim_end hf hm hz (by omega)
      have hV := dlen_eq_zero.1 hd
      go_wp2
      go_ret
      exact ⟨rfl, rfl⟩
    · obtain ⟨b, off, rfl, hrow⟩ := hs (by omega)
      have hcm := hrow (m-1) (by omega)
      rw [oct_at] at hcm
      by_cases h1 : f (m-1) = 0
      · rw [h1] at hcm
        go_wp2
        go_round
        case rel => exact ⟨m-1, by omega, fun i a b => by
          rcases Nat.lt_or_ge i m with h | h
          · have : i = m-1 := by omega
            rw [this]; exact h1
          · exact hz i h b, by go_num⟩
        case measure => simp [intOf]; omega
      · have hd := trim_end hf hm hz (fun _ => h1)
        have hV : 0 < val f n := by
          rcases Nat.eq_zero_or_pos (val f n) with e | e
          · rw [e] at hd; simp [dlen_zero] at hd; omega
          · exact e
        have HD := hide hd; clear hd
        go_wp2
        go_ret
        exact ⟨by rw [unhide HD, nz_pos hV]; rfl, rfl⟩

end Go.Proofs.Ygctai
