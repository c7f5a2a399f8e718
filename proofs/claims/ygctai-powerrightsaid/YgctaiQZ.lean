/-
  law: towerOn, Tower, leaves.
-/
import Derived.Test.YgctaiQX
import Derived.Test.YgctaiQY
import Derived.Test.YgctaiQU
namespace Go.Proofs.Ygctai
open Go.RowKit
set_option linter.unusedVariables false
attribute [local go_sem ↓] Go.wp_at_zero Go.wp_at_succ

theorem row_any (kd v : Nat) (s : Ms) (sa so : Option Addr) (ad : Nat → Option Addr) (a : Option Addr) (la ca : Nat) (f : Nat → Nat) (w : World) (hp : Pcx w 0 sa s.n s.S ad) (ho : Oup w 0 so s.o) (hn : s.n ≤ 16) (hk : s.o ≤ 1024)
    (hs : Sl w a la f) (hf : Byt f) (h1 : la ≤ ca) (h2 : ca ≤ 9223372036854775807) (h3 : la ≤ 512) (hkd : kd = 0 ∨ kd = 1 ∨ kd = 4) (hv : val f la = v) :
    Calls Taig.prog 94 #[.int .u8 0, .agg #[.slice sa s.n s.n, .slice so s.o s.o], .agg #[.int .u8 (kd : Int), .slice a la ca]] w fun e w' =>
      ∃ sb ob ad', e = .returned (.agg #[.slice sb (stp kd v s).n (stp kd v s).n, .slice ob (stp kd v s).o (stp kd v s).o]) ∧ Pcx w' 0 sb (stp kd v s).n (stp kd v s).S ad' ∧ Oup w' 0 ob (stp kd v s).o ∧ Below w.heap.size w w' ∧ Avd w sa so sb ob s.n (stp kd v s).n ad ad' := by
  obtain ⟨n, S, o⟩ := s
  rcases hkd with rfl | rfl | rfl
  · exact row_push sa so n o v S ad a la ca f w hp ho hn hk hs hf h1 h2 h3 hv
  · exact row_mul sa so n o v S ad a la ca f w hp ho hn hk
  · exact row_sqr sa so n o v S ad a la ca f w hp ho hn hk

theorem Pcx.grewA {w w' : World} {x : Option Addr} {B : Nat} {a : Option Addr} {n : Nat} {S : Nat → Nat} {ad : Nat → Option Addr} (h : Pcx w B a n S ad) (hg : Grew x w w') (ha : Apt x a) (he : ∀ i, i < n → Apt x (ad i)) : Pcx w' B a n S ad := by
  refine ⟨fun hn => ?_, fun i hi => (h.ent i hi).grew' hg (he i hi)⟩
  obtain ⟨b, e, hB, r⟩ := h.row hn
  exact ⟨b, e, hB, r.grew hg (fun e' => ha b 0 none 0 none e' e)⟩
theorem Oup.grewA {w w' : World} {x : Option Addr} {B : Nat} {a : Option Addr} {k : Nat} (h : Oup w B a k) (hg : Grew x w w') (ha : Apt x a) : Oup w' B a k := fun hk => by
  obtain ⟨b, e, hB, r⟩ := h hk
  exact ⟨b, e, hB, r.grew hg (fun e' => ha b 0 none 0 none e' e)⟩

theorem row_one23 (w : World) (d : Option Addr) (V : Nat) : Row (w.alloc (.cells #[.slice d (dlen V) (dlen V)] 23)) w.heap.size 0 1 (fun _ => .slice d (dlen V) (dlen V)) := row_new w _ 23 1 _ (fun i hi => by
  obtain rfl : i = 0 := by omega
  rfl)
/-- The law's own state, in block M. -/
structure TwI (w wr : World) (M : Nat) (s : Ms) (sa so : Option Addr) (ad : Nat → Option Addr) : Prop where
  b : Below M w wr
  hM : M < wr.heap.size
  r : Row wr M 0 2 (st2 (.slice sa s.n s.n) (.slice so s.o s.o))
  f : Free wr M 0 2
  p : Pcx wr 0 sa s.n s.S ad
  o : Oup wr 0 so s.o
  a1 : Apt (some ⟨M, 0, none⟩) sa
  a2 : Apt (some ⟨M, 0, none⟩) so
  a3 : ∀ i, i < s.n → Apt (some ⟨M, 0, none⟩) (ad i)
theorem TwI.step {w wr w5 : World} {M : Nat} {s s' : Ms} {sa so sb ob : Option Addr} {ad ad' : Nat → Option Addr} (h : TwI w wr M s sa so ad) (hp : Pcx w5 0 sb s'.n s'.S ad') (ho : Oup w5 0 ob s'.o) (hb : Below wr.heap.size wr w5) (hav : Avd wr sa so sb ob s.n s'.n ad ad') :
    TwI w ((w5.setCell ⟨M, 0, none⟩ (.slice sb s'.n s'.n)).setCell ⟨M, 1, none⟩ (.slice ob s'.o s'.o)) M s' sb ob ad' := by
  obtain ⟨v1, v2, v3⟩ := hav M h.hM h.a1 h.a2 h.a3
  have g0 := grew_set w5 M 0 (.slice sb s'.n s'.n)
  have g1 := grew_set (w5.setCell ⟨M, 0, none⟩ (.slice sb s'.n s'.n)) M 1 (.slice ob s'.o s'.o)
  have hM := h.hM
  refine ⟨((h.b.trans (hb.mono (by omega))).setCell (Nat.le_refl _) _).setCell (Nat.le_refl _) _, by simp; have := hb.size; omega, ?_, ((h.f.below hb hM).setCell _ _).setCell _ _, (hp.grewA g0 v1 v3).grewA g1 v1 v3, (ho.grewA g0 v2).grewA g1 v2, v1, v2, v3⟩
  refine (((h.r.keep hb).setCell (i := 0) (by decide) (.slice sb s'.n s'.n)).setCell (i := 1) (by decide) (.slice ob s'.o s'.o)).congr (fun i hi => ?_)
  match i, hi with
  | 0, _ => rfl
  | 1, _ => rfl

set_option maxRecDepth 100000 in
set_option maxHeartbeats 2000000 in
theorem towerOn_any (eb : Nat) (a : Option Addr) (n cap : Nat) (ks vs : Nat → Nat) (w : World) (he : Row w eb 0 4 (oct fun i => i)) (h : Scr w a n ks vs) (hn : n ≤ 128) :
    Calls Taig.prog 66 #[.slice (some ⟨eb, 0, none⟩) 4 4, .slice a n cap] w fun e w' => e = .returned (.bool true) ∧ Below w.heap.size w w' := by
  have HR := hide (rn_ok (N := n) (ks := ks) h.len)
  have KC := hide (cutScript_any a n cap w hn)
  have HS := hide h
  have HE := hide he
  clear h he
  have eN : decide ((128 : Int) < (n : Int)) = false := by simp; omega
  have b0 := below_alloc w (.cells #[.slice none 0 0, .slice none 0 0] 102)
  have t0 : Hid (TwI w (w.alloc (.cells #[.slice none 0 0, .slice none 0 0] 102)) w.heap.size (rn ks vs 0) none none (fun _ => none)) :=
    ⟨b0, by simp, st2_new _ _ _, free_new _ _ _ _, pcx_nil _ _ _ _, oup_nil _ _, (apt_none _).symm, (apt_none _).symm, fun i hi => absurd hi (Nat.not_lt_zero _)⟩
  go_enter Taig.func66, Taig.ntmps66
  go_wp2_with fail
  refine (unhide KC).mono ?_
  rintro e w1 ⟨rfl, rfl⟩
  clear KC
  go_wp2_with fail
  generalize w.alloc (.cells #[.slice none 0 0, .slice none 0 0] 102) = w1 at *
  go_loopg [7] n (fun gk iv wr => ∃ (i : Nat) (sa so : Option Addr) (ad : Nat → Option Addr), gk = n - i ∧ i ≤ n ∧ iv = .int .i64 (i : Int) ∧ Hid (TwI w wr w.heap.size (rn ks vs i) sa so ad))
  case atStart => exact ⟨0, none, none, _, rfl, Nat.zero_le _, rfl, t0⟩
  case round =>
    clear t0 b0
    obtain ⟨i, sa, so, ad, rfl, hi, rfl, HI⟩ := hrel
    have c0 := (unhide HI).r 0 (by decide)
    have c1 := (unhide HI).r 1 (by decide)
    have x0 := (unhide HI).f.all (by decide) 0
    have x1 := (unhide HI).f.all (by decide) 1
    have hM := (unhide HI).hM
    simp only [Nat.zero_add, st2] at c0 c1
    by_cases ci : i < n
    · obtain ⟨b, aa, la, ca, f, rfl, k1, k2, hk, hsl, hf, l1, l2, l3, hv⟩ := (unhide HS).keep (unhide HI).b i ci
      obtain ⟨g1, g2, g3, g4⟩ := unhide HR i hi
      have K := hide (row_any (ks i) (vs i) (rn ks vs i) sa so ad aa la ca f wr.drew ((unhide HI).p.keep (Below.refl _ _).drew) ((unhide HI).o.keep (Below.refl _ _).drew) g1 (by omega) hsl.drew hf l1 l2 l3 hk hv)
      rw [Nat.mul_comm] at k1 k2
      have i2 : (0 : Int) ≤ (i : Int) := by omega
      have i3 : (i : Int) < (n : Int) := by omega
      clear g1 g2 g3 g4 hk hv hsl hf
      go_wp2
      go_region_with (go_at_call 94; refine (unhide K).mono ?_; rintro e w5 ⟨sb, ob, ad', rfl, hp5, ho5, hb5, hav⟩; have e0 : w5.cell? ⟨w.heap.size, 0, none⟩ = some (.slice sa (rn ks vs i).n (rn ks vs i).n) := (hb5.cell hM).trans c0; have e1 : w5.cell? ⟨w.heap.size, 1, none⟩ = some (.slice so (rn ks vs i).o (rn ks vs i).o) := (hb5.cell hM).trans c1; have y0 : w5.frozen? ⟨w.heap.size, 0, none⟩ = false := (hb5.frozen hM).trans x0; have y1 : w5.frozen? ⟨w.heap.size, 1, none⟩ = false := (hb5.frozen hM).trans x1)
      all_goals
        go_wp2
        have HI2 : Hid (TwI w _ w.heap.size (rn ks vs (i + 1)) sb ob ad') := (unhide HI).step hp5 ho5 ((Below.refl _ _).drew.trans hb5) hav
        clear hp5 ho5 hb5 hav e0 e1 y0 y1 c0 c1 x0 x1 HI K k1 k2
        go_roundg (n - (i + 1))
        case measure => omega
        case rel => exact ⟨i + 1, _, _, _, rfl, by omega, rfl, HI2⟩
    · obtain rfl : i = n := by omega
      obtain ⟨g1, g2, g3, g4⟩ := unhide HR i (Nat.le_refl _)
      have G4 := hide g4
      obtain ⟨wo, rfl⟩ : ∃ x, x = wr := ⟨wr, rfl⟩
      clear hi ci g4
      go_wp2_with fail
      go_loopg [8] 4 (fun gk jv wr => ∃ j : Nat, gk = 4 - j ∧ j ≤ 4 ∧ jv = .int .i64 (j : Int) ∧ Below wo.heap.size wo wr)
      case atStart => exact ⟨0, rfl, by omega, rfl, Below.refl _ _⟩
      case round =>
        obtain ⟨j, rfl, hj, rfl, hbr⟩ := hrel
        by_cases cj : j < 4
        · have bw : Below w.heap.size w wr := (unhide HI).b.trans (hbr.mono (by omega))
          have ec := ((unhide HE).keep bw) j cj
          rw [Nat.zero_add, oct_at] at ec
          have K := hide (run_any j a i cap ks vs wr cj ((unhide HS).keep bw) hn)
          have j2 : (0 : Int) ≤ (j : Int) := by omega
          have j3 : (j : Int) < 4 := by omega
          go_wp2_with fail
          refine (unhide K).mono ?_
          rintro e w5 ⟨sa', so', rfl, ⟨ad5, hp5⟩, ho5, hb5⟩
          have bwo5 : Below wo.heap.size wo w5 := hbr.trans (hb5.mono hbr.size)
          have b6 := below_alloc w5 (.cells #[.bool false, .slice sa' (rn ks vs i).n (rn ks vs i).n, .slice so' (rn ks vs i).o (rn ks vs i).o] 80)
          have bwo6 := bwo5.trans (b6.mono bwo5.size)
          have d0 := (bwo6.cell hM).trans c0
          have d1 := (bwo6.cell hM).trans c1
          have K7 := hide (isOutcome_any sa' so' sa so (rn ks vs i).n (rn ks vs i).o (rn ks vs i).n (rn ks vs i).o (rn ks vs i).S ad5 ad _ ((hp5.mono (Nat.zero_le _)).keep b6) ((ho5.mono (Nat.zero_le _)).keep b6) ((unhide HI).p.keep bwo6) ((unhide HI).o.keep bwo6) g1 (by omega) (unhide G4))
          clear K hp5 ho5
          go_wp2_with fail
          refine (unhide K7).mono ?_
          rintro e w7 ⟨rfl, hb7⟩
          have bwo7 := bwo6.trans (hb7.mono bwo6.size)
          clear K7 hb7 d0 d1 b6 bwo6
          go_wp2
          go_roundg (4 - (j + 1))
          case measure => omega
          case rel => exact ⟨j + 1, rfl, by omega, rfl, bwo7⟩
        · go_wp2
          go_ret
          exact ⟨rfl, (unhide HI).b.trans (hbr.mono (by omega))⟩

set_option maxRecDepth 100000 in
set_option maxHeartbeats 1000000 in
theorem tower_any (a : Option Addr) (n cap : Nat) (ks vs : Nat → Nat) (w : World) (h : Scr w a n ks vs) (hn : n ≤ 128) :
    Calls Taig.prog 32 #[.slice a n cap] w fun e w' => e = .returned (.bool true) ∧ Below w.heap.size w w' := by
  have b0 := below_alloc w (.cells #[.int .u8 0, .int .u8 1, .int .u8 2, .int .u8 3] 5)
  have r0 : Row (w.alloc (.cells #[.int .u8 0, .int .u8 1, .int .u8 2, .int .u8 3] 5)) w.heap.size 0 4 (oct fun i => i) := row_new w _ 5 4 _ (fun i hi => by
    match i, hi with
    | 0, _ => rfl
    | 1, _ => rfl
    | 2, _ => rfl
    | 3, _ => rfl)
  have K := hide (towerOn_any w.heap.size a n cap ks vs (w.alloc (.cells #[.int .u8 0, .int .u8 1, .int .u8 2, .int .u8 3] 5)) r0 (h.keep b0) hn)
  clear r0 h
  go_enter Taig.func32, Taig.ntmps32
  go_wp2_with fail
  refine (unhide K).mono ?_
  rintro e w1 ⟨rfl, hb⟩
  go_wp2
  go_ret
  exact ⟨rfl, b0.trans (hb.mono b0.size)⟩

set_option maxRecDepth 100000 in
set_option maxHeartbeats 2000000 in
theorem leaves_any (a : Option Addr) (n cap : Nat) (ks vs : Nat → Nat) (d : Option Addr) (V : Nat) (w : World) (h : Scr w a n ks vs) (hn : n ≤ 128) (hd : Nt w 0 d V) (hV : dlen V ≤ 512) (h1 : One (rn ks vs n) V) :
    Calls Taig.prog 34 #[.slice a n cap, .slice d (dlen V) (dlen V)] w fun e w' => e = .returned (.bool true) ∧ Below w.heap.size w w' := by
  have HS := hide h
  have HD := hide hd
  have H1 := hide h1
  clear h hd h1
  go_enter Taig.func34, Taig.ntmps34
  go_wp2_with fail
  go_loopg [5] 4 (fun gk jv wr => ∃ j : Nat, gk = 4 - j ∧ j ≤ 4 ∧ jv = .int .u8 (j : Int) ∧ Below w.heap.size w wr)
  case atStart => exact ⟨0, rfl, by omega, rfl, Below.refl _ _⟩
  case round =>
    obtain ⟨j, rfl, hj, rfl, hbr⟩ := hrel
    by_cases cj : j < 4
    · have K := hide (run_any j a n cap ks vs wr cj ((unhide HS).keep hbr) hn)
      go_wp2_with fail
      refine (unhide K).mono ?_
      rintro e w5 ⟨sa', so', rfl, ⟨ad5, hp5⟩, ho5, hb5⟩
      obtain ⟨o1, o2, o3⟩ := unhide H1
      rw [o1] at hp5
      rw [o3] at ho5
      rw [o1, o3]
      have b5 : Below w.heap.size w w5 := hbr.trans (hb5.mono hbr.size)
      have b6 := below_alloc w5 (.cells #[.slice d (dlen V) (dlen V)] 23)
      have p6 : Pcx (w5.alloc (.cells #[.slice d (dlen V) (dlen V)] 23)) 0 (some ⟨w5.heap.size, 0, none⟩) 1 (fun _ => V) (fun _ => d) :=
        ⟨fun _ => ⟨_, rfl, Nat.zero_le _, row_one23 w5 d V⟩, fun i hi => (unhide HD).keep (b5.trans (b6.mono b5.size))⟩
      have hS1 : ∀ i, i < 1 → (rn ks vs n).S i = V := fun i hi => by
        obtain rfl : i = 0 := by omega
        exact o2
      have p5 : Pcx w5 0 sa' 1 (fun _ => V) ad5 := (hp5.mono (Nat.zero_le _)).congr hS1
      have K7 := hide (isOutcome_any sa' so' (some ⟨w5.heap.size, 0, none⟩) none 1 0 1 0 (fun _ => V) ad5 (fun _ => d) _ (p5.keep b6) ((ho5.mono (Nat.zero_le _)).keep b6) p6 (oup_nil _ _) (by omega) (by omega) (fun _ _ => by omega))
      clear K hp5 ho5 p5 p6 o1 o2 o3 hS1
      go_wp2_with fail
      refine (unhide K7).mono ?_
      rintro e w7 ⟨rfl, hb7⟩
      have b7 := b5.trans ((b6.trans (hb7.mono b6.size)).mono b5.size)
      clear K7 hb7 b6
      go_wp2
      go_roundg (4 - (j + 1))
      case measure => omega
      case rel => exact ⟨j + 1, rfl, by omega, rfl, b7⟩
    · go_wp2
      go_ret
      exact ⟨rfl, hbr⟩
end Go.Proofs.Ygctai
