/-
  calc: Check.
-/
import Derived.Test.YgctaiQD
namespace Go.Proofs.Ygctai
open Go.RowKit
set_option linter.unusedVariables false

theorem eqlNil109 (w : World) (a : Addr) : (binOp .eql 109 (.pointer (some a)) (.pointer none)).run Taig.prog w = .ok (.bool false) w := by
  have h : ∀ d : Nat, (Op.equalIn (d + 1) 109 (.pointer (some a)) (.pointer none)).run Taig.prog w = .ok false w := fun d => by
    simp [Op.equalIn, run_underlying Taig.underlying109]
  simp only [binOp]
  simp [Op.equal, Op.maxDepth, h 9999]

/-- stack[i]. -/
theorem Mcx.at {w : World} {B H mb n : Nat} {S : Nat → Nat} {k : Nat} {a : Option Addr} {cap : Nat} {o : Option Addr} {oc : Nat} {ad : Nat → Option Addr}
    (h : Mcx w B H mb n S k a cap o oc ad) (hn : 0 < n) : ∃ b c, a = some ⟨b, 0, none⟩ ∧ Row w b 0 n c ∧ (∀ i, i < n → c i = .slice (ad i) (dlen (S i)) (dlen (S i))) ∧ n ≤ cap := by
  obtain ⟨c, ho, hc⟩ := h.st
  obtain ⟨b, rfl, _, r⟩ := ho.row hn
  exact ⟨b, c, rfl, r, hc, ho.le⟩

set_option maxRecDepth 100000 in
set_option maxHeartbeats 1000000 in
theorem check_any (B mb n : Nat) (S : Nat → Nat) (k : Nat) (w : World) (h : Mc w B mb ⟨n, S, k⟩) (hn : n ≤ 16) (hl : ∀ i, i < n → dlen (S i) ≤ 1024) :
    Calls Taig.prog 115 #[.pointer (some ⟨mb, 0, none⟩)] w fun e w' => e = .returned (.bool true) ∧ Below w.heap.size w w' := by
  obtain ⟨a, cap, o, oc, ad, hx⟩ := h
  have h : Mcx w B w.heap.size mb n S k a cap o oc ad := hx
  clear hx
  have H := hide h
  have c0 := h.c0
  have hL := hide hl
  clear h hl
  have e0 := eqlNil109 w ⟨mb, 0, none⟩
  go_enter Taig.func115, Taig.ntmps115
  go_wp2
  clear e0
  go_loopg [3] n (fun gk iv wr => ∃ i : Nat, gk = n - i ∧ i ≤ n ∧ iv = .int .i64 i ∧ w = wr)
  case atStart => exact ⟨0, rfl, Nat.zero_le _, rfl, rfl⟩
  case round =>
    obtain ⟨i, rfl, hi, rfl, rfl⟩ := hrel
    by_cases c1 : i < n
    · obtain ⟨b, c, rfl, r, hc, _⟩ := (unhide H).at (by omega)
      have ci := r i c1
      rw [hc i c1, Nat.zero_add] at ci
      have K := hide (natNormal_true (ad i) (S i) (dlen (S i)) w (((unhide H).en i c1).mono (Nat.zero_le _)) (by have := unhide hL i c1; omega))
      clear hc r
      generalize dlen (S i) = l at *
      go_wp2_with fail
      refine (unhide K).mono ?_
      rintro e w5 ⟨rfl, rfl⟩
      go_wp2
      go_roundg (n - (i + 1))
      case measure => omega
      case rel => exact ⟨i + 1, rfl, by omega, rfl, rfl⟩
    · clear hi
      go_wp2
      go_loopg [4] n (fun gk iv wr => ∃ i : Nat, gk = n - i ∧ i ≤ n ∧ iv = .int .i64 i ∧ Below w.heap.size w wr)
      case atStart => exact ⟨0, rfl, Nat.zero_le _, rfl, Below.refl _ _⟩
      case round =>
        obtain ⟨x, rfl, hi, rfl, hb⟩ := hrel
        have M2 := (unhide H).keep hb
        have d0 := M2.c0
        by_cases c2 : x < n
        · obtain ⟨b, c, rfl, r, hc, _⟩ := M2.at (by omega)
          have ci := r x c2
          rw [hc x c2, Nat.zero_add] at ci
          rcases Nat.eq_zero_or_pos (S x) with h0 | h0
          · rw [(M2.en x c2).1 h0, h0, show dlen 0 = 0 from rfl] at ci
            have hr0 := neqNil23 none 0 0 wr
            clear hc r M2 c1 h0
            go_wp2
            go_roundg (n - (x + 1))
            case measure => omega
            case rel => exact ⟨x + 1, rfl, by omega, rfl, hb⟩
          · have hr0 := neqNil23 (ad x) (dlen (S x)) (dlen (S x)) wr
            rw [(M2.en x c2).isNone, decide_eq_false (by omega)] at hr0
            have K := hide (shares_any b n cap x c ad S wr c2 hn r hc (fun j hj => (M2.en j hj).mono (Nat.zero_le _)) (fun j hj hji => M2.ee x j c2 hj (fun e => hji e.symm)) (unhide hL) h0)
            clear hc r M2 c1 h0
            generalize dlen (S x) = l at *
            go_wp2_with fail
            refine (unhide K).mono ?_
            rintro e w5 ⟨rfl, hb5⟩
            go_wp2
            go_roundg (n - (x + 1))
            case measure => omega
            case rel => exact ⟨x + 1, rfl, by omega, rfl, hb.trans (hb5.mono hb.size)⟩
        · clear M2 c1
          go_wp2
          go_ret
          exact ⟨rfl, hb⟩
end Go.Proofs.Ygctai
