/-
  THE PLAIN MATHEMATICS OF + - * /: a fraction rounded; its sticky floor serves; words of 128 bits.
-/
import Derived.Test.YgcoafM7
namespace Go.Proofs.Ygcoaf
open Go.Proofs.Ygcoaf.M

/-- N/D rounded, given its binary exponent -/
def ratNear (E M : Nat) (neg : Bool) (N D : Nat) (real : Int) : Nat := min (rungOf M (lo E) 0 neg N D (max real (lo E))) (infR E M) + sgn E M neg

theorem nearest_rat (E M : Nat) (neg : Bool) (mag : Nat) (place : Int) (h : mag ≠ 0) :
    (Ieee.Format.mk E M).nearest neg mag place = ratNear E M neg (mag * 2 ^ place.toNat) (2 ^ (-place).toNat) (place + mag.log2) := by
  rw [nearest_eq _ _ _ _ h, word_eq, infRung_eq, loOf_eq]; rfl

theorem ratNear_congr (E M : Nat) (neg : Bool) (N D N' D' : Nat) (r r' : Int) (h : N * D' = N' * D) (a : IsLog N D r) (b : IsLog N' D' r') : ratNear E M neg N D r = ratNear E M neg N' D' r' := by
  have e := IsLog.unique h a b
  subst e
  unfold ratNear
  rw [rungOf_eq _ _ _ _ _ _ _ _ _ a.1 b.1 h]

/-- the exponent of a fraction times a power of two -/
theorem isLog_frac (n d : Nat) (place : Int) (hd : 0 < d) (h : n / d ≠ 0) : IsLog (n * 2 ^ place.toNat) (d * 2 ^ (-place).toNat) (place + (n / d).log2) := by
  have h1 : 2 ^ (n / d).log2 ≤ n / d := Nat.log2_self_le h
  have h2 : n / d < 2 ^ ((n / d).log2 + 1) := Nat.lt_log2_self
  have g1 : d * 2 ^ (n / d).log2 ≤ n := by
    rw [Nat.le_div_iff_mul_le hd, Nat.mul_comm] at h1; exact h1
  have g2 : n < d * 2 ^ ((n / d).log2 + 1) := by
    rw [Nat.div_lt_iff_lt_mul hd, Nat.mul_comm] at h2; exact h2
  generalize (n / d).log2 = l at *
  refine ⟨Nat.mul_pos hd (Nat.two_pow_pos _), ?_, ?_⟩
  · calc d * 2 ^ (-place).toNat * 2 ^ (place + (l : Int)).toNat = d * 2 ^ ((-place).toNat + (place + (l : Int)).toNat) := by rw [Nat.pow_add]; ac_rfl
      _ = d * 2 ^ (l + (place.toNat + (-(place + (l : Int))).toNat)) := by congr 2; omega
      _ = d * 2 ^ l * (2 ^ (place.toNat + (-(place + (l : Int))).toNat)) := by rw [Nat.pow_add]; ac_rfl
      _ ≤ n * (2 ^ (place.toNat + (-(place + (l : Int))).toNat)) := Nat.mul_le_mul_right _ g1
      _ = n * 2 ^ place.toNat * 2 ^ (-(place + (l : Int))).toNat := by rw [Nat.pow_add]; ac_rfl
  · calc n * 2 ^ place.toNat * 2 ^ (-(place + (l : Int) + 1)).toNat = n * (2 ^ (place.toNat + (-(place + (l : Int) + 1)).toNat)) := by rw [Nat.pow_add]; ac_rfl
      _ < d * 2 ^ (l + 1) * (2 ^ (place.toNat + (-(place + (l : Int) + 1)).toNat)) := Nat.mul_lt_mul_of_pos_right g2 (Nat.two_pow_pos _)
      _ = d * 2 ^ (l + 1 + (place.toNat + (-(place + (l : Int) + 1)).toNat)) := by rw [Nat.pow_add (m := l + 1)]; ac_rfl
      _ = d * 2 ^ ((-place).toNat + (place + (l : Int) + 1).toNat) := by congr 2; omega
      _ = d * 2 ^ (-place).toNat * 2 ^ (place + (l : Int) + 1).toNat := by rw [Nat.pow_add]; ac_rfl

theorem st_log (n d : Nat) (h : n / d ≠ 0) : st n d ≠ 0 ∧ (st n d).log2 = (n / d).log2 := by
  by_cases h0 : n % d = 0
  · rw [st_even n d h0]; exact ⟨h, rfl⟩
  · have e := st_odd n d h0
    have h1 : 2 ^ (n / d).log2 ≤ n / d := Nat.log2_self_le h
    have h2 : n / d < 2 ^ ((n / d).log2 + 1) := Nat.lt_log2_self
    have hs : n / d ≤ st n d := by rw [e]; omega
    have hs2 : st n d < 2 ^ ((n / d).log2 + 1) := by
      rw [e]
      rw [Nat.pow_succ] at h2 ⊢
      omega
    have hne : st n d ≠ 0 := by omega
    refine ⟨hne, ?_⟩
    have a := (Nat.le_log2 hne).2 (Nat.le_trans h1 hs)
    have b := (Nat.log2_lt hne).2 hs2
    omega

/-- THE STICKY FLOOR OF A FRACTION IS ROUNDED AS THE FRACTION -/
theorem nearest_st (E M : Nat) (neg : Bool) (n d : Nat) (place : Int) (hd : 0 < d) (h : n / d ≠ 0) (hk : n % d = 0 ∨ M + 2 ≤ (n / d).log2) :
    (Ieee.Format.mk E M).nearest neg (st n d) place = ratNear E M neg (n * 2 ^ place.toNat) (d * 2 ^ (-place).toNat) (place + (n / d).log2) := by
  obtain ⟨hne, hl⟩ := st_log n d h
  rw [nearest_rat _ _ _ _ _ hne, hl]
  by_cases h0 : n % d = 0
  · apply ratNear_congr
    · rw [st_even n d h0]
      have : n = n / d * d := by have := Nat.div_add_mod n d; rw [h0] at this; rw [Nat.mul_comm]; omega
      calc n / d * 2 ^ place.toNat * (d * 2 ^ (-place).toNat) = n / d * d * 2 ^ place.toNat * 2 ^ (-place).toNat := by ac_rfl
        _ = n * 2 ^ place.toNat * 2 ^ (-place).toNat := by rw [← this]
    · have := isLog_mag (st n d) place hne
      rw [hl] at this; exact this
    · exact isLog_frac n d place hd h
  · have hk2 : M + 2 ≤ (n / d).log2 := by omega
    unfold ratNear
    rw [rungOf_st _ _ _ _ _ _ _ _ hd (by omega)]

/-! ### words -/
theorem mul64_hi (a1 a0 b1 b0 : Nat) (h1 : a1 < 4294967296) (h2 : a0 < 4294967296) (h3 : b1 < 4294967296) (h4 : b0 < 4294967296) :
    ∃ p11 p10 p01 p00 : Nat, p11 = a1 * b1 ∧ p10 = a1 * b0 ∧ p01 = a0 * b1 ∧ p00 = a0 * b0 ∧ p11 ≤ 18446744065119617025 ∧ p10 ≤ 18446744065119617025 ∧ p01 ≤ 18446744065119617025 ∧ p00 ≤ 18446744065119617025 ∧
      (a1 * 4294967296 + a0) * (b1 * 4294967296 + b0) = p11 * 18446744073709551616 + (p10 + p01) * 4294967296 + p00 := by
  have bd : ∀ x y : Nat, x < 4294967296 → y < 4294967296 → x * y ≤ 18446744065119617025 := fun x y hx hy =>
    Nat.le_trans (Nat.mul_le_mul (show x ≤ 4294967295 by omega) (show y ≤ 4294967295 by omega)) (by decide)
  refine ⟨_, _, _, _, rfl, rfl, rfl, rfl, bd _ _ h1 h3, bd _ _ h1 h4, bd _ _ h2 h3, bd _ _ h2 h4, ?_⟩
  rw [Nat.add_mul, Nat.mul_add, Nat.mul_add]
  have e1 : a1 * 4294967296 * (b1 * 4294967296) = a1 * b1 * 18446744073709551616 := by
    rw [show (18446744073709551616 : Nat) = 4294967296 * 4294967296 by decide]; ac_rfl
  have e2 : a1 * 4294967296 * b0 = a1 * b0 * 4294967296 := by ac_rfl
  have e3 : a0 * (b1 * 4294967296) = a0 * b1 * 4294967296 := by ac_rfl
  rw [e1, e2, e3]
  omega

end Go.Proofs.Ygcoaf
