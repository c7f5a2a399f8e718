/-
  nschool.DecSchool.
-/
import Derived.Test.YgctaiReadS
namespace Go.Proofs.Ygctai
open Go.RowKit
set_option linter.unusedVariables false

/-! ### plain -/
/-- The decimals, lowest first. -/
def sdec (t : Nat → Nat) : Nat → Nat
  | 0 => 0
  | k + 1 => sdec t k + (t k - 48) * 10 ^ k

theorem sdec_congr {t u : Nat → Nat} (k : Nat) (h : ∀ i, i < k → t i = u i) : sdec t k = sdec u k := by
  induction k with
  | zero => rfl
  | succ k ih => rw [sdec, sdec, ih (fun i hi => h i (by omega)), h k (by omega)]
theorem dec_congr {t u : Nat → Nat} (k : Nat) (h : ∀ i, i < k → t i = u i) : dec t k = dec u k := by
  induction k with
  | zero => rfl
  | succ k ih => rw [dec, dec, ih (fun i hi => h i (by omega)), h k (by omega)]

theorem dec_top (u : Nat → Nat) (k : Nat) : dec u (k + 1) = dec (fun x => u (x + 1)) k + (u 0 - 48) * 10 ^ k := by
  induction k with
  | zero => simp [dec]
  | succ k ih =>
    rw [dec, ih, dec, Nat.pow_succ, Nat.mul_add]
    have : (u 0 - 48) * (10 ^ k * 10) = 10 * ((u 0 - 48) * 10 ^ k) := by rw [← Nat.mul_assoc, Nat.mul_comm]
    omega

theorem dec_rev (t : Nat → Nat) (k : Nat) : dec (fun x => t (k - 1 - x)) k = sdec t k := by
  induction k with
  | zero => rfl
  | succ k ih =>
    rw [dec_top, sdec, ← ih]
    congr 1
    exact dec_congr k fun i hi => by
      congr 1; omega

theorem cap_ok (n : Nat) : 256 ^ n ≤ 10 ^ (5 * n / 2 + 1) := by
  have h : ∀ m, 256 ^ (2 * m) ≤ 10 ^ (5 * m) := fun m => by
    rw [Nat.pow_mul, Nat.pow_mul 10]; exact Nat.pow_le_pow_left (by decide) m
  have hm := h (n / 2)
  have h2 : n % 2 = 0 ∨ n % 2 = 1 := by omega
  have e : n = 2 * (n / 2) + n % 2 := by omega
  rcases h2 with h2 | h2
  · rw [h2] at e; generalize n / 2 = m at *; subst e
    rw [show 5 * (2 * m + 0) / 2 + 1 = 5 * m + 1 by omega, Nat.pow_succ]; simp only [Nat.add_zero]; omega
  · rw [h2] at e; generalize n / 2 = m at *; subst e
    rw [show 5 * (2 * m + 1) / 2 + 1 = 5 * m + 3 by omega, Nat.pow_succ, Nat.pow_add]; omega

/-- One digit of the division by ten. -/
theorem div10_step {h : Nat → Nat} {N l L rest v : Nat} (hl : l + 1 ≤ L) (hv : v = rest * 256 + dig N l) (hq : val (fun i => h (l + 1 + i)) (L - (l + 1)) * 10 + rest = N / 256 ^ (l + 1)) :
    val (fun i => upd h l (v / 10) (l + i)) (L - l) * 10 + v % 10 = N / 256 ^ l := by
  obtain ⟨m, hm⟩ : ∃ m, L - l = m + 1 := ⟨L - l - 1, by omega⟩
  have hm' : L - (l + 1) = m := by omega
  rw [hm, val_low]
  rw [hm'] at hq
  have e1 : val (fun i => upd h l (v / 10) (l + (i + 1))) m = val (fun i => h (l + 1 + i)) m := val_congr m fun i hi => by
    rw [upd_ne _ _ (by omega)]; congr 1; omega
  have e2 : upd h l (v / 10) (l + 0) = v / 10 := by rw [Nat.add_zero, upd_at]
  have e3 : N / 256 ^ l = 256 * (N / 256 ^ (l + 1)) + dig N l := by
    unfold dig
    rw [Nat.pow_succ, ← Nat.div_div_eq_div_mul]
    omega
  rw [e1, e2, e3, ← hq]
  omega

theorem or_low {r d : Nat} (hd : d < 256) : r * 256 ||| d = r * 256 + d := by
  have := Nat.shiftLeft_add_eq_or_of_lt (i := 8) (b := d) hd r
  rw [Nat.shiftLeft_eq] at this
  exact this.symm
/-- 'rest << 8 | digit'. -/
theorem or16 {r d : Nat} (hr : r < 256) (hd : d < 256) : bits .or .u16 ((r : Int) * 256) (d : Int) = (r : Int) * 256 + d := by
  have := u16_or_nat (r * 256) d (by omega) (by omega)
  rw [or_low hd] at this
  simpa using this

theorem quo16 {x : Nat} (hx : x < 65536) : IntKind.u16.wrap ((x : Int).tdiv 10) = ((x / 10 : Nat) : Int) := by
  rw [Int.tdiv_eq_ediv_of_nonneg (by omega), IntKind.wrap_u16]; omega
theorem quo16' {r d : Nat} (hr : r ≤ 9) (hd : d < 256) : IntKind.u16.wrap (((r : Int) * 256 + (d : Int)).tdiv 10) = (((r * 256 + d) / 10 : Nat) : Int) := by
  rw [← quo16 (by omega)]; congr 2

/-! ### append within the capacity -/
theorem Taig.someInfo5 : ∃ i, Taig.prog.info? 5 = some i ∧ i.zero = some (.int .u8 0) ∧ i.size = 1 ∧ i.bytes = 1 := info_parts Taig.info5
theorem setCells_one (w : World) (b o : Nat) (u : Value) : w.setCells b o [u] = w.setCell ⟨b, o, none⟩ u := rfl

/-- 'append(text, u)' where there is room. -/
theorem app_fit (w : World) (T off k cap g : Nat) (u : Value) (d : Nat → Value) (hcell : w.cell? ⟨g, 0, none⟩ = some u) (h1 : u.oneCell' = true) (hd : Row w T off cap d) (hf : Free w T off cap) (hk : k < cap) :
    (Builtin.append_ #[22, 22] 22 #[.slice (some ⟨T, off, none⟩) k cap, .slice (some ⟨g, 0, none⟩) 1 1]).run Taig.prog w = .ok (.slice (some ⟨T, off, none⟩) (k + 1) cap) (w.setCell ⟨T, off + k, none⟩ u) := by
  obtain ⟨i, hi, _, hs, _⟩ := Taig.someInfo5
  have := run_append_room_cells (P := Taig.prog) w 22 22 5 i Taig.underlying22 hi T off k cap ⟨g, 0, none⟩ 1 1 [u] (by simp [hs]) (fun j v hj => by
    match j, hj with
    | 0, hj => simp at hj; subst hj; exact hcell) (fun v hv => by simp at hv; subst hv; exact h1) (by omega)
    (fun j hj => by simp at hj; subst hj; rw [hs, Nat.mul_one, Nat.add_zero, hd k hk]; rfl) (fun j hj => by simp at hj; subst hj; rw [hs, Nat.mul_one, Nat.add_zero]; exact hf k hk)
  rw [this, hs, Nat.mul_one, setCells_one]

/-- 'make([]uint8, 0, c)'. -/
theorem make22cap (c : Nat) (hn : c ≤ 281474976710656) (w : World) : (Instr.makeSlice 22 (.int .i64 0) (.int .i64 (c : Int))).run Taig.prog w = .ok (.slice (some ⟨w.heap.size, 0, none⟩) 0 c) (w.alloc (made (.int .u8 0) c 5)) := by
  obtain ⟨i, hi, hz, hs, hb⟩ := Taig.someInfo5
  have := run_make (P := Taig.prog) w 22 5 i (.int .u8 0) Taig.underlying22 hi hz .i64 .i64 0 c (by omega) (by omega) (by rw [hb]; omega) (by omega)
  rw [hs, Nat.mul_one] at this
  exact this


/-- What is appended is the lowest decimal of what is left. -/
theorem sdec_step {t : Nat → Nat} {k N q rest M : Nat} (h : sdec t k + N * 10 ^ k = M) (hq : q * 10 + rest = N) : sdec (upd t k (48 + rest)) (k + 1) + q * 10 ^ (k + 1) = M := by
  have e : N * 10 ^ k = q * (10 ^ k * 10) + rest * 10 ^ k := by rw [← hq, Nat.add_mul, Nat.mul_assoc, Nat.mul_comm 10 (10 ^ k)]
  rw [sdec, sdec_congr k (fun i hi => upd_ne t (48 + rest) (by omega)), upd_at, Nat.add_sub_cancel_left, ← h, Nat.pow_succ, e, Nat.add_assoc, Nat.add_comm (rest * 10 ^ k)]

theorem sdec_le {t : Nat → Nat} {k N M : Nat} (h : sdec t k + N * 10 ^ k = M) : N ≤ M := by
  have : N * 1 ≤ N * 10 ^ k := Nat.mul_le_mul_left _ (Nat.pow_pos (by decide))
  omega

theorem dec_room {k N M n : Nat} {t : Nat → Nat} (h : sdec t k + N * 10 ^ k = M) (hN : 0 < N) (hM : M < 256 ^ n) : k < 5 * n / 2 + 1 := by
  have h1 : 1 * 10 ^ k ≤ N * 10 ^ k := Nat.mul_le_mul_right _ hN
  have h2 := cap_ok n
  have h3 : 10 ^ k < 10 ^ (5 * n / 2 + 1) := by omega
  exact (Nat.pow_lt_pow_iff_right (by decide)).1 h3

/-- The state of the text while it is made. -/
structure DecSt (w wr : World) (T cap k N M : Nat) (wa : Option Addr) (t : Nat → Nat) : Prop where
  nt : Nt wr w.heap.size wa N
  apart : ∀ o, wa ≠ some ⟨T, o, none⟩
  row : Row wr T 0 cap (oct t)
  free : Free wr T 0 cap
  byt : Byt t
  dgt : ∀ i, i < k → Dgt (t i)
  sum : sdec t k + N * 10 ^ k = M
  top : 0 < k → N = 0 → t (k - 1) ≠ 48
  below : Below w.heap.size w wr
  own : w.heap.size ≤ T

/-- The text, the lowest decimal first. -/
structure DecEnd (w wr : World) (T cap k M : Nat) (t : Nat → Nat) : Prop where
  row : Row wr T 0 cap (oct t)
  free : Free wr T 0 cap
  byt : Byt t
  dgt : ∀ i, i < k → Dgt (t i)
  sum : sdec t k = M
  pos : 0 < k
  top : k = 1 ∨ t (k - 1) ≠ 48
  below : Below w.heap.size w wr
  own : w.heap.size ≤ T

/-- t with i decimals at each end turned round. -/
def turned (t : Nat → Nat) (k i : Nat) : Nat → Nat := fun x => if x < k ∧ (x < i ∨ k - i ≤ x) then t (k - 1 - x) else t x
theorem turned_zero (t : Nat → Nat) (k : Nat) : turned t k 0 = t := by
  funext x; unfold turned; rw [if_neg (by omega)]
theorem turned_step (t : Nat → Nat) (k i : Nat) (h : 2 * i + 1 < k) : upd (upd (turned t k i) i (turned t k i (k - 1 - i))) (k - 1 - i) (turned t k i i) = turned t k (i + 1) := by
  funext x
  unfold upd turned
  by_cases h1 : x = k - 1 - i
  · subst h1
    rw [if_pos rfl, if_neg (by omega), if_pos (by omega)]; congr 1; omega
  · rw [if_neg h1]
    by_cases h2 : x = i
    · subst h2
      rw [if_pos rfl, if_neg (by omega), if_pos (by omega)]
    · rw [if_neg h2]
      by_cases h3 : x < k ∧ (x < i ∨ k - i ≤ x)
      · rw [if_pos h3, if_pos (by omega)]
      · rw [if_neg h3, if_neg (by omega)]
theorem turned_step' (t : Nat → Nat) (k i : Nat) (h : 2 * i + 1 < k) : upd (upd (turned t k i) (k - 1 - i) (turned t k i i)) i (turned t k i (k - 1 - i)) = turned t k (i + 1) := by
  rw [← turned_step t k i h]
  funext x
  unfold upd
  by_cases h1 : x = i
  · rw [if_pos h1, if_neg (by omega), if_pos h1]
  · rw [if_neg h1, if_neg h1]
theorem turned_end (t : Nat → Nat) (k i : Nat) (h : k ≤ 2 * i + 1) (x : Nat) (hx : x < k) : turned t k i x = t (k - 1 - x) := by
  unfold turned
  by_cases h1 : x < i ∨ k - i ≤ x
  · rw [if_pos ⟨hx, h1⟩]
  · rw [if_neg (by omega)]; congr 1; omega
theorem turned_byt {t : Nat → Nat} (h : Byt t) (k i : Nat) : Byt (turned t k i) := fun x => by
  unfold turned; split <;> exact h _

set_option maxRecDepth 100000 in
set_option maxHeartbeats 2000000 in
theorem decSchool_any (a : Option Addr) (n cap : Nat) (f : Nat → Nat) (w : World) (hs : Sl w a n f) (hf : Byt f) (hn : n ≤ cap) (hc : cap ≤ 9223372036854775807) (bn : n ≤ 1099511627776) :
    Calls Taig.prog 16 #[.slice a n cap] w fun e w' => ∃ T k c t, e = .returned (.slice (some ⟨T, 0, none⟩) k c) ∧ Below w.heap.size w w' ∧ w.heap.size ≤ T ∧ Row w' T 0 k (oct t) ∧ Free w' T 0 k ∧ Byt t ∧ (∀ i, i < k → Dgt (t i)) ∧ 0 < k ∧ (k = 1 ∨ t 0 ≠ 48) ∧ dec t k = val f n ∧ k ≤ c ∧ c ≤ 5 * n / 2 + 1 := by
  have hM := val_lt n (fun i _ => hf i)
  have K := hide (normal_any a n cap f w hs hf hn hc (by omega))
  have hdl := dlen_val_le hf n
  have hM2 := lt_pow_dlen (val f n)
  generalize val f n = M at *
  generalize hL : dlen M = L at *
  have HL := hide hL
  clear hL hM hs hf
  have hmk : ∀ w, (Instr.makeSlice 22 (.int .i64 0) (.int .i64 (5 * (L : Int) / 2 + 1))).run Taig.prog w = .ok (.slice (some ⟨w.heap.size, 0, none⟩) 0 (5 * L / 2 + 1)) (w.alloc (made (.int .u8 0) (5 * L / 2 + 1) 5)) := fun w => make22cap (5 * L / 2 + 1) (by omega) w
  go_enter Taig.func16, Taig.ntmps16
  go_wp2_with fail
  refine (unhide K).mono ?_
  rintro e w1 ⟨wa0, rfl, hnt0, hb0⟩
  have hz0 := hb0.size
  go_wp2
  go_loopg [3, 4] (M + 1) (fun gk wk tx wr => ∃ (k N : Nat) (wa : Option Addr) (t : Nat → Nat), gk = N + 1 ∧ wk = .slice wa (dlen N) (dlen N) ∧ tx = .slice (some ⟨w1.heap.size, 0, none⟩) k (5 * L / 2 + 1) ∧ k ≤ 5 * L / 2 + 1 ∧ DecSt w wr w1.heap.size (5 * L / 2 + 1) k N M wa t)
  case atStart => exact ⟨0, M, wa0, fun _ => 0, rfl, by rw [unhide HL], rfl, Nat.zero_le _, hnt0.keep (below_alloc _ _), fun o h => Nat.lt_irrefl _ (hnt0.lt h), row_made _ _ _ _, free_made _ _ _ _, byt_zero, fun i hi => absurd hi (by omega), by simp [sdec], fun h => absurd h (by omega), hb0.trans ((below_alloc _ _).mono hz0), hz0⟩
  case round =>
    obtain ⟨k, N, wa, t, rfl, rfl, rfl, hk, st⟩ := hrel
    rcases Nat.eq_zero_or_pos N with hN | hN
    · subst hN
      go_upto_if 54 with fail
      go_cut [4] (fun tx wc => ∃ (k : Nat) (t : Nat → Nat), tx = .slice (some ⟨w1.heap.size, 0, none⟩) k (5 * L / 2 + 1) ∧ k ≤ 5 * L / 2 + 1 ∧ DecEnd w wc w1.heap.size (5 * L / 2 + 1) k M t)
      case first =>
        have hTs : w1.heap.size < wr.heap.size := st.row.block_lt (by omega)
        rcases Nat.eq_zero_or_pos k with hk0 | hk0
        · subst hk0
          have ct := st.row.cell (i := 0) (by omega)
          have ft := st.free 0 (by omega)
          have hr := st.row.put (o := 0) (z := 48) 0 48 (by omega) (by omega) rfl
          simp only [Nat.zero_add, oct_at] at ct ft
          go_wp2
          go_meet
          case rel => exact ⟨1, upd t 0 48, rfl, by omega, {
            row := hr.alloc _
            free := (st.free.setCell _ _).below (below_alloc _ _) (by simp; exact hTs)
            byt := st.byt.upd _ _ (by omega)
            dgt := fun i hi => by
              obtain rfl : i = 0 := by omega
              rw [upd_at]; exact ⟨by omega, by omega⟩
            sum := by have hs := st.sum; simp only [sdec, Nat.zero_add, Nat.zero_mul] at hs; simp [sdec, upd_at, ← hs]
            pos := by omega
            top := .inl rfl
            below := ((st.below.setCell st.own _).alloc (by simp; exact st.below.size) _)
            own := st.own }⟩
        · have hk1 : ((k : Int) == 0) = false := by simp; omega
          have hs : Hid (sdec t k = M) := by have hs := st.sum; simp only [Nat.zero_mul, Nat.add_zero] at hs; exact hs
          go_wp2
          go_meet
          case rel => exact ⟨k, t, rfl, hk, { row := st.row, free := st.free, byt := st.byt, dgt := st.dgt, sum := hs, pos := hk0, top := .inr (st.top hk0 rfl), below := st.below, own := st.own }⟩
      case rest =>
        clear st
        obtain ⟨k, t, rfl, hk, st⟩ := hcut
        have hk0 := st.pos
        go_wp2
        go_loopg [8, 9] k (fun gk i j wr => ∃ (x : Nat), gk = k - x ∧ 2 * x ≤ k ∧ i = .int .i64 x ∧ j = .int .i64 ((k : Int) - 1 - x) ∧ Row wr w1.heap.size 0 (5 * L / 2 + 1) (oct (turned t k x)) ∧ Free wr w1.heap.size 0 (5 * L / 2 + 1) ∧ Below w.heap.size w wr)
        case atStart => exact ⟨0, rfl, by omega, rfl, int_eq (by omega), by rw [turned_zero]; exact st.row, st.free, st.below⟩
        case round =>
          obtain ⟨x, rfl, hx, rfl, rfl, hrow, hfree, hbel⟩ := hrel
          by_cases hlt : 2 * x + 1 < k
          · have c1 := hrow.cell (i := x) (by omega)
            have c2 := hrow.cell (i := k - 1 - x) (by omega)
            have f1 := hfree x (by omega)
            have f2 := hfree (k - 1 - x) (by omega)
            simp only [Nat.zero_add, oct_at] at c1 c2 f1 f2
            go_wp2
            go_region
            go_wp2
            go_roundg (k - (x + 1))
            case measure => omega
            case rel => exact ⟨x + 1, rfl, by omega, by go_num, int_eq (by omega), by
              rw [← turned_step t k x hlt]
              exact (hrow.put x _ (by omega) (by omega) rfl).put (k - 1 - x) _ (by omega) (by omega) rfl, ((hfree.setCell _ _).setCell _ _).drew, ((hbel.setCell st.own _).setCell st.own _).drew⟩
          · have hx2 : k ≤ 2 * x + 1 := by omega
            have hL2 : L ≤ n := by omega
            go_wp2
            go_ret
            refine ⟨w1.heap.size, k, 5 * L / 2 + 1, turned t k x, rfl, hbel, st.own, hrow.sub hk, hfree.sub hk, turned_byt st.byt _ _, ?_, st.pos, ?_, ?_, hk, by omega⟩
            · intro i hi
              rw [turned_end t k x hx2 i hi]; exact st.dgt _ (by omega)
            · rw [turned_end t k x hx2 0 (by omega), Nat.sub_zero]; exact st.top
            · rw [dec_congr k (fun i hi => turned_end t k x hx2 i hi), dec_rev, st.sum]
    · have hd := dlen_pos hN
      obtain ⟨b, off, rfl, hbB, hrow, hfree⟩ := st.nt.2 hN
      have hbT : b ≠ w1.heap.size := fun e => st.apart off (by rw [e])
      have hroom : k < 5 * L / 2 + 1 := dec_room st.sum hN (by rw [← unhide HL] at hM2; rw [← unhide HL]; exact hM2)
      have st1 := st.row
      have hdlN : dlen N ≤ L := by rw [← unhide HL]; exact dlen_mono (sdec_le st.sum)
      go_wp2
      go_loopg [5, 6] (dlen N) (fun gl rs i wi => ∃ (l rest : Nat) (h : Nat → Nat), l = gl ∧ l ≤ dlen N ∧ i = .int .i64 ((l : Int) - 1) ∧ rs = .int .u16 rest ∧ rest ≤ 9 ∧ Byt h ∧ Hid (∀ i, i < l → h i = dig N i) ∧ Row wi b off (dlen N) (oct h) ∧ Free wi b off (dlen N) ∧ Wr b off (off + dlen N) wr wi ∧ Hid (val (fun i => h (l + i)) (dlen N - l) * 10 + rest = N / 256 ^ l))
      case atStart => exact ⟨dlen N, 0, dig N, rfl, Nat.le_refl _, rfl, rfl, by omega, byt_dig N, fun _ _ => rfl, hrow, hfree, Wr.refl _ _ _ _, by simp [Hid, val, Nat.div_eq_of_lt (lt_pow_dlen N)]⟩
      case round =>
        obtain ⟨l, rest, h, rfl, hl, rfl, rfl, hrest, hh, hlow, hrow2, hfree2, hwr, hval⟩ := hrel
        clear hrow hfree
        rcases Nat.eq_zero_or_pos l with hl0 | hl0
        · subst hl0
          have HQ : Hid (val h (dlen N) * 10 + rest = N) := by
            have hq := unhide hval
            simp only [Nat.zero_add, Nat.sub_zero, Nat.pow_zero, Nat.div_one] at hq
            exact hq
          clear hval hlow
          have hTs : w1.heap.size < wr.heap.size := by have := hwr.size; have := st.row.block_lt (by omega); omega
          have ct := (st.row.wr hwr (.inl (fun e => hbT e.symm))).cell hroom
          have ft := (st.free.wr hwr (st.row.block_lt (by omega))) k hroom
          simp only [Nat.zero_add, oct_at] at ct ft
          go_wp2_with fail
          have hw1 := hrow2.setOther (b' := w1.heap.size) (o' := k) (.inl (fun e => hbT e.symm)) (.int .u8 (48 + (rest : Int)))
          refine (normal_any _ _ _ h _ (fun _ => ⟨_, _, rfl, hw1.alloc _⟩) hh (Nat.le_refl _) (by omega) (by omega)).mono ?_
          rintro e w3 ⟨c, rfl, hnt, hb3⟩
          have ht1 := (st.row.wr hwr (.inl (fun e => hbT e.symm))).put (o := k) (z := 48 + (rest : Int)) k (48 + rest) hroom (by omega) (by omega)
          have ht2 := (st.free.wr hwr (st.row.block_lt (by omega))).setCell ⟨w1.heap.size, k, none⟩ (.int .u8 (48 + (rest : Int)))
          have hbl := hwr.below st.below hbB st.below.size
          have hbl2 := (hbl.setCell (p := ⟨w1.heap.size, k, none⟩) st.own (.int .u8 (48 + (rest : Int)))).alloc (by simp; exact hbl.size) (.cells #[.int .u8 (48 + (rest : Int))] 5)
          go_wp2
          go_roundg (val h (dlen N) + 1)
          case measure => have := unhide HQ; omega
          case rel => exact ⟨k + 1, val h (dlen N), c, upd t k (48 + rest), rfl, rfl, rfl, by omega, {
            nt := hnt.mono hbl2.size
            apart := fun o e => by
              subst e
              obtain ⟨b', o', e', hb', _⟩ := hnt.2 (by
                rcases Nat.eq_zero_or_pos (val h (dlen N)) with e | e
                · have := hnt.1 e; cases this
                · exact e)
              injection e' with e'
              injection e' with e'
              simp at hb'
              omega
            row := (ht1.alloc _).keep hb3
            free := (ht2.below (below_alloc _ _) (by simp; exact hTs)).below hb3 (by simp; omega)
            byt := st.byt.upd _ _ (by omega)
            dgt := fun i hi => by
              by_cases e : i = k
              · subst e; rw [upd_at]; exact ⟨by omega, by omega⟩
              · rw [upd_ne _ _ e]; exact st.dgt i (by omega)
            sum := sdec_step st.sum (unhide HQ)
            top := fun _ e => by
              have := unhide HQ
              rw [Nat.add_sub_cancel, upd_at]; omega
            below := hbl2.trans (hb3.mono hbl2.size)
            own := st.own }⟩
        · obtain ⟨m, rfl⟩ : ∃ m, l = m + 1 := ⟨l - 1, by omega⟩
          have c2 := hrow2.cell (i := m) (by omega)
          have f2 := hfree2 m (by omega)
          have e2 := unhide hlow m (by omega)
          have d2 := dig_lt N m
          have o2 := or16 (r := rest) (by omega) d2
          have q2 := quo16' hrest d2
          simp only [oct_at] at c2
          rw [e2] at c2
          clear e2
          go_wp2
          go_roundg m
          case measure => omega
          case rel => exact ⟨m, (rest * 256 + dig N m) % 10, upd h m ((rest * 256 + dig N m) / 10), rfl, by omega, rfl, int_eq (by omega), by omega, hh.upd _ _ (by omega), fun i hi => by rw [upd_ne _ _ (by omega)]; exact unhide hlow i (by omega), hrow2.put m _ (by omega) rfl (by omega), hfree2.setCell _ _, hwr.setCell (by omega) (by omega) _, hide (div10_step (by omega) rfl (unhide hval))⟩
end Go.Proofs.Ygctai
