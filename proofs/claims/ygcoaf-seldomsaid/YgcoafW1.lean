/-
  WALKS, the first: bit lengths (wide.Clz, ieee.width), the format's functions (Ok, SignBit, Bias, Inf, MaxFinite, signed).
-/
import Derived.Test.YgcoafH
import Derived.Test.YgcoafM6
namespace Go.Proofs.Ygcoaf
open Go.RowKit

theorem or64 (a b : Nat) (k : Int) (hk : k = (b : Int)) (ha : a < 18446744073709551616) (hb : b < 18446744073709551616) : bits .or .u64 (a : Int) k = ((a ||| b : Nat) : Int) := by rw [hk]; exact u64_or_nat a b ha hb
theorem and64 (a b : Nat) (j k : Int) (hj : j = (a : Int)) (hk : k = (b : Int)) (ha : a < 18446744073709551616) (hb : b < 18446744073709551616) : bits .and .u64 j k = ((a &&& b : Nat) : Int) := by rw [hj, hk]; exact u64_and_nat a b ha hb
theorem wrap64_lt (x : Int) (h0 : 0 ≤ x) (h1 : x < 18446744073709551616) : IntKind.u64.wrap x = x := by rw [IntKind.wrap_u64]; omega
theorem wrap64_nat (x : Nat) : IntKind.u64.wrap (x : Int) = ((x % 18446744073709551616 : Nat) : Int) := by rw [IntKind.wrap_u64]; omega
theorem wrap_i16 (n : Int) : IntKind.i16.wrap n = (n + 32768) % 65536 - 32768 := by
  simp [IntKind.wrap, IntKind.bits, IntKind.signed]; split <;> omega
theorem wrap64_pow (n : Nat) (h : n < 64) : IntKind.u64.wrap ((2 : Int) ^ n) = (2 : Int) ^ n := by
  have h1 : 2 ^ n < 2 ^ 64 := Nat.pow_lt_pow_right (by decide) h
  rw [← cast_two_pow, wrap64_nat, Nat.mod_eq_of_lt (by omega)]

theorem clz_byte (q : Nat) (h : q < 64) : ((({ data := #[63, 62, 15, 61, 6, 14, 35, 60, 2, 5, 13, 21, 25, 34, 46, 59, 1, 8, 4, 27, 10, 12, 20, 41, 18, 24, 30, 33, 39, 45, 51, 58, 0, 16, 7, 36, 3, 22, 26, 47, 9, 28, 11, 42, 19, 31, 40, 52, 17, 37, 23, 48, 29, 43, 32, 53, 38, 49, 44, 54, 50, 55, 56, 57] } : ByteArray)[q]'h).toNat) = (M.clzTab[q]?).getD 0 := by
  have : ∀ q (h : q < 64), ((({ data := #[63, 62, 15, 61, 6, 14, 35, 60, 2, 5, 13, 21, 25, 34, 46, 59, 1, 8, 4, 27, 10, 12, 20, 41, 18, 24, 30, 33, 39, 45, 51, 58, 0, 16, 7, 36, 3, 22, 26, 47, 9, 28, 11, 42, 19, 31, 40, 52, 17, 37, 23, 48, 29, 43, 32, 53, 38, 49, 44, 54, 50, 55, 56, 57] } : ByteArray)[q]'h).toNat) = (M.clzTab[q]?).getD 0 := by decide
  exact this q h

/-- wide.Clz of what is not zero -/
theorem clz_pos (x : Nat) (hx : x < 18446744073709551616) (h0 : 0 < x) (w : World) :
    Calls Oafg.prog 172 #[.int .u64 x] w fun e w' => e = .returned (.int .u8 ((63 - x.log2 : Nat) : Int)) ∧ w = w' := by
  obtain ⟨s1, s2, s3, s4, s5, s6, e1, e2, e3, e4, e5, e6, b1, b2, b3, b4, b5, b6, e7⟩ := M.smear x (by omega) hx
  have hl : x.log2 < 64 := (Nat.log2_lt (by omega)).2 hx
  have f1 : bits .or .u64 (x : Int) ((x : Int) / 2) = (s1 : Int) := by rw [e1]; exact or64 _ _ _ (by simp) hx (by omega)
  have f2 : bits .or .u64 (s1 : Int) ((s1 : Int) / 4) = (s2 : Int) := by rw [e2]; exact or64 _ _ _ (by simp) b1 (by omega)
  have f3 : bits .or .u64 (s2 : Int) ((s2 : Int) / 16) = (s3 : Int) := by rw [e3]; exact or64 _ _ _ (by simp) b2 (by omega)
  have f4 : bits .or .u64 (s3 : Int) ((s3 : Int) / 256) = (s4 : Int) := by rw [e4]; exact or64 _ _ _ (by simp) b3 (by omega)
  have f5 : bits .or .u64 (s4 : Int) ((s4 : Int) / 65536) = (s5 : Int) := by rw [e5]; exact or64 _ _ _ (by simp) b4 (by omega)
  have f6 : bits .or .u64 (s5 : Int) ((s5 : Int) / 4294967296) = (s6 : Int) := by rw [e6]; exact or64 _ _ _ (by simp) b5 (by omega)
  obtain ⟨p, hpe⟩ : ∃ p, p = 2 ^ x.log2 := ⟨_, rfl⟩
  obtain ⟨q, hqe⟩ : ∃ q, q = (2 ^ x.log2 * 285870213051386505 % 18446744073709551616) / 288230376151711744 := ⟨_, rfl⟩
  have f7 : bits .xor .u64 (s6 : Int) ((s6 : Int) / 2) = (p : Int) := by
    have : ((s6 : Int) / 2) = ((s6 / 2 : Nat) : Int) := by simp
    rw [this, u64_xor_nat _ _ b6 (by omega), e7, M.smear_xor _ hl, hpe]
  obtain ⟨t1, t2⟩ := M.clz_tab _ hl
  rw [← hqe] at t1 t2
  have f8 : IntKind.u64.wrap ((p : Int) * 285870213051386505) / 288230376151711744 = (q : Int) := by
    rw [hqe, ← hpe, IntKind.wrap_u64]; omega
  have hne : ((x : Int) == 0) = false := by rw [beq_eq_false_iff_ne]; omega
  have hb := clz_byte q t1
  rw [t2] at hb
  have HB : Hid _ := hb
  clear e1 e2 e3 e4 e5 e6 e7 hpe hqe hb t2
  go_enter Oafg.func172, Oafg.ntmps172
  go_wp2
  go_ret
  refine ⟨ret_int ?_, rfl⟩
  exact congrArg Nat.cast HB.out

theorem clz_zero (w : World) : Calls Oafg.prog 172 #[.int .u64 0] w fun e w' => e = .returned (.int .u8 64) ∧ w = w' := by
  go_enter Oafg.func172, Oafg.ntmps172
  go_wp2
  go_ret
  exact ⟨rfl, rfl⟩

/-- ieee.width of what is not zero -/
theorem width_pos (x : Nat) (hx : x < 18446744073709551616) (h0 : 0 < x) (w : World) :
    Calls Oafg.prog 177 #[.int .u64 x] w fun e w' => e = .returned (.int .u8 ((x.log2 + 1 : Nat) : Int)) ∧ w = w' := by
  obtain ⟨s1, s2, s3, s4, s5, s6, e1, e2, e3, e4, e5, e6, b1, b2, b3, b4, b5, b6, e7⟩ := M.smear x (by omega) hx
  have hl : x.log2 < 64 := (Nat.log2_lt (by omega)).2 hx
  have f1 : bits .or .u64 (x : Int) ((x : Int) / 2) = (s1 : Int) := by rw [e1]; exact or64 _ _ _ (by simp) hx (by omega)
  have f2 : bits .or .u64 (s1 : Int) ((s1 : Int) / 4) = (s2 : Int) := by rw [e2]; exact or64 _ _ _ (by simp) b1 (by omega)
  have f3 : bits .or .u64 (s2 : Int) ((s2 : Int) / 16) = (s3 : Int) := by rw [e3]; exact or64 _ _ _ (by simp) b2 (by omega)
  have f4 : bits .or .u64 (s3 : Int) ((s3 : Int) / 256) = (s4 : Int) := by rw [e4]; exact or64 _ _ _ (by simp) b3 (by omega)
  have f5 : bits .or .u64 (s4 : Int) ((s4 : Int) / 65536) = (s5 : Int) := by rw [e5]; exact or64 _ _ _ (by simp) b4 (by omega)
  have f6 : bits .or .u64 (s5 : Int) ((s5 : Int) / 4294967296) = (s6 : Int) := by rw [e6]; exact or64 _ _ _ (by simp) b5 (by omega)
  obtain ⟨y1, y2, y3, a1, a2, a3, c1, c2, c3, c4, c5, c6, c7, c8, c9, c10, c11⟩ := M.count_bits (x.log2 + 1) (by omega)
  rw [← e7] at c1 c2 c3
  have g1 : bits .and .u64 ((s6 : Int) / 2) 6148914691236517205 = (a1 : Int) := by
    rw [c1]; exact and64 _ _ _ _ (by simp) (by simp) (by omega) (by omega)
  have g2 : bits .and .u64 (y1 : Int) 3689348814741910323 = (a2 : Int) := by
    rw [c5]; exact and64 _ _ _ _ (by simp) (by simp) (by omega) (by omega)
  have g3 : bits .and .u64 ((y1 : Int) / 4) 3689348814741910323 = (a3 : Int) := by
    rw [c6]; exact and64 _ _ _ _ (by simp) (by simp) (by omega) (by omega)
  have g4 : bits .and .u64 ((y2 : Int) + (y2 : Int) / 16) 1085102592571150095 = (y3 : Int) := by
    rw [c9]; exact and64 _ _ _ _ (by simp) (by simp) (by omega) (by omega)
  have g5 : (s6 : Int) - (a1 : Int) = (y1 : Int) := by omega
  have g6 : (a2 : Int) + (a3 : Int) = (y2 : Int) := by omega
  have g7 : IntKind.u64.wrap ((y3 : Int) * 72340172838076673) = ((y3 * 72340172838076673 % 18446744073709551616 : Nat) : Int) := by rw [← wrap64_nat]; simp
  generalize y3 * 72340172838076673 % 18446744073709551616 = z at g7 c11
  have HB : Hid _ := c11
  clear e1 e2 e3 e4 e5 e6 e7 c1 c3 c5 c6 c7 c9 c11
  go_enter Oafg.func177, Oafg.ntmps177
  go_wp2
  go_ret
  refine ⟨ret_int ?_, rfl⟩
  have := HB.out
  omega

/-! ### the format -/
def fokB (E M : Int) : Bool := decide (2 ≤ E) && decide (E ≤ 11) && decide (2 ≤ M) && decide (M ≤ 52)

theorem fokB_yes {E M : Nat} (h1 : 2 ≤ E) (h2 : E ≤ 11) (h3 : 2 ≤ M) (h4 : M ≤ 52) : fokB E M = true := by simp [fokB]; omega

/-- ieee.Format.Ok -/
theorem ok_any (E M : Int) (w : World) :
    Calls Oafg.prog 54 #[.agg #[.int .u8 E, .int .u8 M]] w fun e w' => e = .returned (.bool (fokB E M)) ∧ Below w.heap.size w w' := by
  go_enter Oafg.func54, Oafg.ntmps54
  go_wp2
  all_goals
    go_ret
    exact ⟨by simp [fokB, *] <;> omega, (Below.refl _ _).alloc (Nat.le_refl _) _⟩

theorem ok_yes {E M : Nat} (h1 : 2 ≤ E) (h2 : E ≤ 11) (h3 : 2 ≤ M) (h4 : M ≤ 52) (w : World) :
    Calls Oafg.prog 54 #[.agg #[.int .u8 E, .int .u8 M]] w fun e w' => e = .returned (.bool true) ∧ Below w.heap.size w w' := by
  rw [← fokB_yes h1 h2 h3 h4]; exact ok_any _ _ _

/-- ieee.Format.SignBit -/
theorem signBit_yes {E M : Nat} (h1 : 2 ≤ E) (h2 : E ≤ 11) (h3 : 2 ≤ M) (h4 : M ≤ 52) (w : World) :
    Calls Oafg.prog 71 #[.agg #[.int .u8 E, .int .u8 M]] w fun e w' => e = .returned (.int .u64 (2 ^ (E + M))) ∧ Below w.heap.size w w' := by
  go_enter Oafg.func71, Oafg.ntmps71
  go_wp2_with (go_at_call 54; refine (ok_yes h1 h2 h3 h4 _).mono ?_; rintro e w' ⟨rfl, hb⟩; obtain ⟨hc, hf⟩ := bcell hb)
  go_ret
  exact ⟨ret_int (wrap64_pow (E + M) (by omega)), below1 hb⟩

theorem signBit_no {E M : Int} (h : fokB E M = false) (w : World) :
    Calls Oafg.prog 71 #[.agg #[.int .u8 E, .int .u8 M]] w fun e w' => e = .returned (.int .u64 0) ∧ Below w.heap.size w w' := by
  go_enter Oafg.func71, Oafg.ntmps71
  go_wp2_with (go_at_call 54; refine (ok_any _ _ _).mono ?_; rintro e w' ⟨rfl, hb⟩; obtain ⟨hc, hf⟩ := bcell hb)
  go_ret
  exact ⟨rfl, below1 hb⟩

theorem biasN_bd {E : Nat} (h1 : 2 ≤ E) (h2 : E ≤ 11) : 1 ≤ biasN E ∧ biasN E ≤ 1023 := by
  have a : 2 ^ 1 ≤ 2 ^ (E - 1) := two_pow_le (by omega)
  have b : 2 ^ (E - 1) ≤ 2 ^ 10 := two_pow_le (by omega)
  have c := cast_two_pow (E - 1)
  unfold biasN
  omega

theorem bias_yes {E M : Nat} (h1 : 2 ≤ E) (h2 : E ≤ 11) (h3 : 2 ≤ M) (h4 : M ≤ 52) (w : World) :
    Calls Oafg.prog 118 #[.agg #[.int .u8 E, .int .u8 M]] w fun e w' => e = .returned (.int .i16 (biasN E)) ∧ Below w.heap.size w w' := by
  go_enter Oafg.func118, Oafg.ntmps118
  go_wp2_with (go_at_call 54; refine (ok_yes h1 h2 h3 h4 _).mono ?_; rintro e w' ⟨rfl, hb⟩; obtain ⟨hc, hf⟩ := bcell hb)
  go_ret
  refine ⟨ret_int ?_, below1 hb⟩
  have b : 2 ^ (E - 1) ≤ 2 ^ 10 := two_pow_le (by omega)
  have c := cast_two_pow (E - 1)
  have d := Nat.two_pow_pos (E - 1)
  show IntKind.i16.wrap (IntKind.i16.wrap (2 ^ (E - 1)) - 1) = 2 ^ (E - 1) - 1
  rw [← c, wrap_i16, wrap_i16]
  omega


theorem or_add (x n : Nat) (h : x < 2 ^ n) : x ||| 2 ^ n = x + 2 ^ n := by
  have := Nat.two_pow_add_eq_or_of_lt h 1
  rw [Nat.mul_one] at this
  rw [Nat.or_comm, ← this, Nat.add_comm]

theorem sgn_lt (E M : Nat) (neg : Bool) (h : E + M ≤ 63) : sgn E M neg ≤ 9223372036854775808 := by
  have : 2 ^ (E + M) ≤ 2 ^ 63 := two_pow_le h
  unfold sgn; split <;> omega

/-- ieee.signed -/
theorem signed_yes {E M : Nat} (h1 : 2 ≤ E) (h2 : E ≤ 11) (h3 : 2 ≤ M) (h4 : M ≤ 52) (neg : Bool) (x : Nat) (hx : x < 2 ^ (E + M)) (w : World) :
    Calls Oafg.prog 171 #[.agg #[.int .u8 E, .int .u8 M], .bool neg, .int .u64 x] w fun e w' => e = .returned (.int .u64 ((x + sgn E M neg : Nat) : Int)) ∧ Below w.heap.size w w' := by
  have b : 2 ^ (E + M) ≤ 2 ^ 63 := two_pow_le (by omega)
  have HX : Hid _ := hx
  cases neg
  · clear hx b
    go_enter Oafg.func171, Oafg.ntmps171
    go_wp2
    go_ret
    exact ⟨ret_int (by simp [sgn]), (Below.refl _ _).alloc (Nat.le_refl _) _⟩
  · have e1 : bits .or .u64 (x : Int) (2 ^ (E + M)) = ((x + 2 ^ (E + M) : Nat) : Int) := by
      rw [or64 x (2 ^ (E + M)) _ (by simp) (by omega) (by omega), or_add _ _ hx]
    obtain ⟨r, hr⟩ : ∃ r, r = x + 2 ^ (E + M) := ⟨_, rfl⟩
    rw [← hr] at e1
    have HR : Hid _ := hr
    clear hx b hr
    go_enter Oafg.func171, Oafg.ntmps171
    go_wp2_with (go_at_call 71; refine (signBit_yes h1 h2 h3 h4 _).mono ?_; rintro e w' ⟨rfl, hb⟩; obtain ⟨hc, hf⟩ := bcell hb)
    go_ret
    exact ⟨ret_int (by rw [HR.out]; simp [sgn]), below1 hb⟩

theorem infR_spell {E M : Nat} (h2 : E ≤ 11) (h4 : M ≤ 52) : IntKind.u64.wrap (IntKind.u64.wrap (IntKind.u64.wrap (2 ^ E) - 1) * 2 ^ M) = ((infR E M : Nat) : Int) := by
  have a := infR_lt E M
  have b : 2 ^ (E + M) ≤ 2 ^ 63 := two_pow_le (by omega)
  have d := Nat.two_pow_pos E
  have d2 : 2 ^ E ≤ 2 ^ 11 := two_pow_le h2
  rw [wrap64_pow E (by omega), ← cast_two_pow, ← cast_two_pow]
  have e : (((2 ^ E : Nat) : Int) - 1) = ((2 ^ E - 1 : Nat) : Int) := by omega
  rw [e, wrap64_nat, Nat.mod_eq_of_lt (by omega), ← Int.natCast_mul, wrap64_nat, Nat.mod_eq_of_lt]
  · rfl
  · show infR E M < _
    omega

theorem maxR_spell {E M : Nat} (h1 : 2 ≤ E) (h2 : E ≤ 11) (h4 : M ≤ 52) : IntKind.u64.wrap (IntKind.u64.wrap (IntKind.u64.wrap (IntKind.u64.wrap (2 ^ E) - 1) * 2 ^ M) - 1) = ((infR E M - 1 : Nat) : Int) := by
  have a := infR_lt E M
  have b : 2 ^ (E + M) ≤ 2 ^ 63 := two_pow_le (by omega)
  have c : 0 < infR E M := Nat.mul_pos (by have : 2 ^ 2 ≤ 2 ^ E := two_pow_le h1; omega) (Nat.two_pow_pos _)
  rw [infR_spell h2 h4, IntKind.wrap_u64]
  omega

set_option maxHeartbeats 400000 in
/-- ieee.Inf -/
theorem inf_yes {E M : Nat} (h1 : 2 ≤ E) (h2 : E ≤ 11) (h3 : 2 ≤ M) (h4 : M ≤ 52) (neg : Bool) (w : World) :
    Calls Oafg.prog 112 #[.agg #[.int .u8 E, .int .u8 M], .bool neg] w fun e w' => e = .returned (.int .u64 ((infR E M + sgn E M neg : Nat) : Int)) ∧ Below w.heap.size w w' := by
  go_enter Oafg.func112, Oafg.ntmps112
  go_wp2_with (first
    | (go_at_call 54; refine (ok_yes h1 h2 h3 h4 _).mono ?_; rintro e w' ⟨rfl, hb⟩; obtain ⟨hc, hf⟩ := bcell hb)
    | (go_at_call 171; rw [infR_spell h2 h4]; refine (signed_yes h1 h2 h3 h4 neg _ (infR_lt E M) _).mono ?_; rintro e w2 ⟨rfl, hb2⟩))
  go_ret
  exact ⟨rfl, (below1 hb).trans (hb2.mono (below1 hb).size)⟩

set_option maxHeartbeats 400000 in
/-- ieee.MaxFinite -/
theorem maxFinite_yes {E M : Nat} (h1 : 2 ≤ E) (h2 : E ≤ 11) (h3 : 2 ≤ M) (h4 : M ≤ 52) (neg : Bool) (w : World) :
    Calls Oafg.prog 154 #[.agg #[.int .u8 E, .int .u8 M], .bool neg] w fun e w' => e = .returned (.int .u64 ((infR E M - 1 + sgn E M neg : Nat) : Int)) ∧ Below w.heap.size w w' := by
  have a := infR_lt E M
  have hm : infR E M - 1 < 2 ^ (E + M) := by omega
  have HM : Hid _ := hm
  clear a hm
  go_enter Oafg.func154, Oafg.ntmps154
  go_wp2_with (first
    | (go_at_call 54; refine (ok_yes h1 h2 h3 h4 _).mono ?_; rintro e w' ⟨rfl, hb⟩; obtain ⟨hc, hf⟩ := bcell hb)
    | (go_at_call 171; rw [maxR_spell h1 h2 h4]; refine (signed_yes h1 h2 h3 h4 neg _ HM.out _).mono ?_; rintro e w2 ⟨rfl, hb2⟩))
  go_ret
  exact ⟨rfl, (below1 hb).trans (hb2.mono (below1 hb).size)⟩

/-- the pattern of the one NaN -/
def nanR (E M : Nat) : Nat := infR E M + 2 ^ (M - 1)

theorem nan_spell {E M : Nat} (h2 : E ≤ 11) (h3 : 2 ≤ M) (h4 : M ≤ 52) : bits .or .u64 (infR E M : Int) (IntKind.u64.wrap (2 ^ (M - 1))) = (nanR E M : Int) := by
  have a := infR_lt E M
  have b : 2 ^ (E + M) ≤ 2 ^ 63 := two_pow_le (by omega)
  have d2 : 2 ^ (M - 1) ≤ 2 ^ 51 := two_pow_le (by omega)
  rw [wrap64_pow (M - 1) (by omega)]
  rw [or64 (infR E M) (2 ^ (M - 1)) _ (by simp) (by omega) (by omega)]
  congr 1
  unfold nanR infR
  rw [Nat.mul_comm]
  exact (Nat.two_pow_add_eq_or_of_lt (Nat.pow_lt_pow_right (by decide) (by omega)) _).symm

/-- what is held through a region: nothing old has turned, and two cells read so -/
theorem held2 {W w1 w2 : World} {B : Nat} {a0 a1 : Addr} {v0 v1 : Value} (h : Below B W w1 ∧ w1.cell? a0 = some v0 ∧ w1.cell? a1 = some v1) (hB : B ≤ W.heap.size) (hb : Below w1.heap.size w1 w2) :
    Below B W w2 ∧ w2.cell? a0 = some v0 ∧ w2.cell? a1 = some v1 :=
  ⟨h.1.trans (hb.mono (Nat.le_trans hB h.1.size)), by rw [hb.cell (World.block_lt_of_cell? _ _ h.2.1)]; exact h.2.1, by rw [hb.cell (World.block_lt_of_cell? _ _ h.2.2)]; exact h.2.2⟩

set_option maxHeartbeats 400000 in
/-- ieee.TheNaN -/
theorem theNaN_yes {E M : Nat} (h1 : 2 ≤ E) (h2 : E ≤ 11) (h3 : 2 ≤ M) (h4 : M ≤ 52) (w : World) :
    Calls Oafg.prog 110 #[.agg #[.int .u8 E, .int .u8 M]] w fun e w' => e = .returned (.int .u64 (nanR E M : Int)) ∧ Below w.heap.size w w' := by
  have e1 : ((infR E M + sgn E M false : Nat) : Int) = (infR E M : Int) := by simp [sgn]
  go_enter Oafg.func110, Oafg.ntmps110
  go_wp2_with (go_at_call 54; refine (ok_yes h1 h2 h3 h4 _).mono ?_; rintro e w' ⟨rfl, hb⟩; obtain ⟨hc, hf⟩ := bcell hb)
  have hb0 := below1 hb
  go_region_held3 (fun w' => Below w.heap.size w w' ∧ w'.cell? ⟨w.heap.size, 0, none⟩ = some (.int .u8 E) ∧ w'.cell? ⟨w.heap.size, 1, none⟩ = some (.int .u8 M))
    (first | exact held2 (by assumption) (Nat.le_refl _) hb2 | exact ⟨hb0.drew, by simp [hc], by simp [hc]⟩)
    ((go_at_call 112; refine (inf_yes h1 h2 h3 h4 false _).mono ?_; rintro e w2 ⟨rfl, hb2⟩; rw [e1]))
  rename_i hH
  go_wp2
  go_ret
  refine ⟨ret_int ?_, hH.1⟩
  have e2 : IntKind.u8.wrap ((M : Int) - 1) = ((M - 1 : Nat) : Int) := by rw [IntKind.wrap_u8']; omega
  have e3 : min (M - 1) 64 = M - 1 := by omega
  rw [e2, Int.toNat_natCast, e3]
  exact nan_spell h2 h3 h4

theorem binary64_any (w : World) : Calls Oafg.prog 20 #[] w fun e w' => e = .returned (.agg #[.int .u8 11, .int .u8 52]) ∧ Below w.heap.size w w' := by
  go_enter Oafg.func20, Oafg.ntmps20
  go_wp2
  exact bodyPost_ret (v := .agg #[.int .u8 11, .int .u8 52]) (by simp [results, Oafg.results20, go_sem]) rfl ⟨rfl, (Below.refl _ _).alloc (Nat.le_refl _) _⟩
theorem binary32_any (w : World) : Calls Oafg.prog 17 #[] w fun e w' => e = .returned (.agg #[.int .u8 8, .int .u8 23]) ∧ Below w.heap.size w w' := by
  go_enter Oafg.func17, Oafg.ntmps17
  go_wp2
  exact bodyPost_ret (v := .agg #[.int .u8 8, .int .u8 23]) (by simp [results, Oafg.results17, go_sem]) rfl ⟨rfl, (Below.refl _ _).alloc (Nat.le_refl _) _⟩

end Go.Proofs.Ygcoaf
