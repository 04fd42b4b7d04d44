/-
  THE PLAIN MATHEMATICS OF BIT LENGTHS: all bits below the highest are set in six steps; a de Bruijn table; a count in parallel.
-/
import Derived.Test.YgcoafM2
namespace Go.Proofs.Ygcoaf.M

/-- the m bits from the top of n bits are set, and no bit above them -/
def TopSet (s n m : Nat) : Prop := s < 2 ^ n ∧ ∀ i, n ≤ i + m → i < n → s.testBit i = true

theorem topSet_start (x : Nat) (h : x ≠ 0) : TopSet x (x.log2 + 1) 1 := by
  refine ⟨lt_log2 x, fun i h1 h2 => ?_⟩
  have : i = x.log2 := by omega
  subst this
  rw [Nat.testBit_log2 h]

theorem topSet_step (s n m : Nat) (h : TopSet s n m) : TopSet (s ||| s / 2 ^ m) n (2 * m) := by
  obtain ⟨h1, h2⟩ := h
  refine ⟨Nat.or_lt_two_pow h1 (Nat.lt_of_le_of_lt (Nat.div_le_self _ _) h1), fun i hi hn => ?_⟩
  rw [Nat.testBit_or, Nat.testBit_div_two_pow]
  by_cases c : n ≤ i + m
  · rw [h2 i c hn]; rfl
  · rw [h2 (i + m) (by omega) (by omega)]; simp

theorem topSet_all (s n m : Nat) (h : TopSet s n m) (hm : n ≤ m) : s = 2 ^ n - 1 := by
  obtain ⟨h1, h2⟩ := h
  apply Nat.eq_of_testBit_eq
  intro i
  rw [Nat.testBit_two_pow_sub_one]
  by_cases c : i < n
  · rw [h2 i (by omega) c]; simp [c]
  · have : 2 ^ n ≤ 2 ^ i := Nat.pow_le_pow_right (by decide) (by omega)
    rw [Nat.testBit_lt_two_pow (by omega)]; simp [c]

/-- six steps set all -/
theorem smear (x : Nat) (h0 : x ≠ 0) (hx : x < 2 ^ 64) : ∃ s1 s2 s3 s4 s5 s6 : Nat, s1 = x ||| x / 2 ∧ s2 = s1 ||| s1 / 4 ∧ s3 = s2 ||| s2 / 16 ∧ s4 = s3 ||| s3 / 256 ∧ s5 = s4 ||| s4 / 65536 ∧ s6 = s5 ||| s5 / 4294967296 ∧
    s1 < 2 ^ 64 ∧ s2 < 2 ^ 64 ∧ s3 < 2 ^ 64 ∧ s4 < 2 ^ 64 ∧ s5 < 2 ^ 64 ∧ s6 < 2 ^ 64 ∧ s6 = 2 ^ (x.log2 + 1) - 1 := by
  have hl : x.log2 < 64 := (Nat.log2_lt h0).2 hx
  have hp : 2 ^ (x.log2 + 1) ≤ 2 ^ 64 := Nat.pow_le_pow_right (by decide) hl
  have t0 := topSet_start x h0
  have t1 := topSet_step _ _ _ t0
  have t2 := topSet_step _ _ _ t1
  have t3 := topSet_step _ _ _ t2
  have t4 := topSet_step _ _ _ t3
  have t5 := topSet_step _ _ _ t4
  have t6 := topSet_step _ _ _ t5
  refine ⟨_, _, _, _, _, _, rfl, rfl, rfl, rfl, rfl, rfl, ?_, ?_, ?_, ?_, ?_, ?_, ?_⟩
  · exact Nat.lt_of_lt_of_le t1.1 hp
  · exact Nat.lt_of_lt_of_le t2.1 hp
  · exact Nat.lt_of_lt_of_le t3.1 hp
  · exact Nat.lt_of_lt_of_le t4.1 hp
  · exact Nat.lt_of_lt_of_le t5.1 hp
  · exact Nat.lt_of_lt_of_le t6.1 hp
  · exact topSet_all _ _ _ t6 (by omega)

theorem smear_xor (n : Nat) (h : n < 64) : (2 ^ (n + 1) - 1) ^^^ ((2 ^ (n + 1) - 1) / 2) = 2 ^ n := by
  have : ∀ n, n < 64 → (2 ^ (n + 1) - 1) ^^^ ((2 ^ (n + 1) - 1) / 2) = 2 ^ n := by decide
  exact this n h

def clzTab : List Nat := [63, 62, 15, 61, 6, 14, 35, 60, 2, 5, 13, 21, 25, 34, 46, 59, 1, 8, 4, 27, 10, 12, 20, 41, 18, 24, 30, 33, 39, 45, 51, 58, 0, 16, 7, 36, 3, 22, 26, 47, 9, 28, 11, 42, 19, 31, 40, 52, 17, 37, 23, 48, 29, 43, 32, 53, 38, 49, 44, 54, 50, 55, 56, 57]

theorem clz_tab (n : Nat) (h : n < 64) : (2 ^ n * 285870213051386505 % 18446744073709551616) / 288230376151711744 < 64 ∧ clzTab[(2 ^ n * 285870213051386505 % 18446744073709551616) / 288230376151711744]? = some (63 - n) := by
  have : ∀ n, n < 64 → (2 ^ n * 285870213051386505 % 18446744073709551616) / 288230376151711744 < 64 ∧ clzTab[(2 ^ n * 285870213051386505 % 18446744073709551616) / 288230376151711744]? = some (63 - n) := by decide
  exact this n h

/-- the bits of 2^n - 1, counted in pairs, fours and bytes -/
theorem count_bits (n : Nat) (h : n ≤ 64) : ∃ y1 y2 y3 a1 a2 a3 : Nat, a1 = (2 ^ n - 1) / 2 &&& 6148914691236517205 ∧ a1 ≤ 2 ^ n - 1 ∧ y1 = 2 ^ n - 1 - a1 ∧ y1 < 18446744073709551616 ∧
    a2 = y1 &&& 3689348814741910323 ∧ a3 = y1 / 4 &&& 3689348814741910323 ∧ y2 = a2 + a3 ∧ y2 + y2 / 16 < 18446744073709551616 ∧ y3 = (y2 + y2 / 16) &&& 1085102592571150095 ∧ y3 < 18446744073709551616 ∧ (y3 * 72340172838076673 % 18446744073709551616) / 72057594037927936 % 256 = n := by
  refine ⟨_, _, _, _, _, _, rfl, ?_, rfl, ?_, rfl, rfl, rfl, ?_, rfl, ?_, ?_⟩
  all_goals (revert h; revert n; decide)

end Go.Proofs.Ygcoaf.M
