/-
  PLAIN LAWS, the tenth: sums of two numbers.
-/
import Derived.Test.YgcoafM9
import Ieee.Arith
namespace Go.Proofs.Ygcoaf
open Go.Proofs.Ygcoaf.M

/-- the sum of two numbers in units of 2^c -/
def sumAt (na : Bool) (A : Nat) (ea : Int) (nb : Bool) (B : Nat) (eb : Int) (c : Int) : Int :=
  Ieee.signed na A (ea - c).toNat + Ieee.signed nb B (eb - c).toNat

/-- the word nearest to a number given in units of 2^c; a zero is +0 -/
def outAt (E M : Nat) (X : Int) (c : Int) : Nat := if X = 0 then 0 else (Ieee.Format.mk E M).nearest (decide (X < 0)) X.natAbs c

theorem signedI (s : Bool) (m u : Nat) : Ieee.signed s m u = (if s then -1 else 1) * ((m * 2 ^ u : Nat) : Int) := by
  unfold Ieee.signed
  rw [Nat.shiftLeft_eq]
  cases s <;> simp

theorem signed_up (s : Bool) (m u k : Nat) : Ieee.signed s m (u + k) = Ieee.signed s m u * ((2 ^ k : Nat) : Int) := by
  rw [signedI, signedI, Nat.pow_add, ← Nat.mul_assoc, Int.natCast_mul, Int.mul_assoc]

theorem sumAt_up (na : Bool) (A : Nat) (ea : Int) (nb : Bool) (B : Nat) (eb c c' : Int) (h1 : c ≤ ea) (h2 : c ≤ eb) (h : c' ≤ c) :
    sumAt na A ea nb B eb c' = sumAt na A ea nb B eb c * ((2 ^ (c - c').toNat : Nat) : Int) := by
  unfold sumAt
  rw [show (ea - c').toNat = (ea - c).toNat + (c - c').toNat by omega, show (eb - c').toNat = (eb - c).toNat + (c - c').toNat by omega, signed_up, signed_up, Int.add_mul]

theorem nearest_up (E M : Nat) (neg : Bool) (m k : Nat) (c c' : Int) (h : c' + k = c) : (Ieee.Format.mk E M).nearest neg (m * 2 ^ k) c' = (Ieee.Format.mk E M).nearest neg m c := by
  by_cases h0 : m = 0
  · subst h0
    rw [Nat.zero_mul, nearest_zero, nearest_zero]
  · have h0' : m * 2 ^ k ≠ 0 := Nat.mul_ne_zero h0 (Nat.ne_of_gt (Nat.two_pow_pos k))
    refine nearest_congr _ neg _ _ _ _ h0' h0 ?_
    rw [Nat.mul_assoc, Nat.mul_assoc, Nat.mul_assoc, ← Nat.pow_add, ← Nat.pow_add, ← Nat.pow_add]; congr 2; omega

theorem outAt_up (E M : Nat) (X : Int) (k : Nat) (c c' : Int) (h : c' + k = c) : outAt E M (X * ((2 ^ k : Nat) : Int)) c' = outAt E M X c := by
  have hp : (0 : Int) < ((2 ^ k : Nat) : Int) := by have := Nat.two_pow_pos k; omega
  unfold outAt
  by_cases h0 : X = 0
  · rw [h0, Int.zero_mul, if_pos rfl, if_pos rfl]
  · rw [if_neg h0, if_neg (Int.mul_ne_zero h0 (by omega)), Int.natAbs_mul, Int.natAbs_natCast, nearest_up _ _ _ _ _ _ _ h]
    congr 1
    by_cases h1 : X < 0
    · rw [decide_eq_true h1, decide_eq_true (Int.mul_neg_of_neg_of_pos h1 hp)]
    · rw [decide_eq_false h1, decide_eq_false (Int.not_lt.2 (Int.mul_nonneg (by omega) (by omega)))]

theorem outAt_any (E M : Nat) (na : Bool) (A : Nat) (ea : Int) (nb : Bool) (B : Nat) (eb c c' : Int) (h1 : c ≤ ea) (h2 : c ≤ eb) (h : c' ≤ c) :
    outAt E M (sumAt na A ea nb B eb c') c' = outAt E M (sumAt na A ea nb B eb c) c := by
  rw [sumAt_up na A ea nb B eb c c' h1 h2 h, outAt_up _ _ _ _ c c' (by omega)]

/-- the rounded sum -/
def sumV (E M : Nat) (na : Bool) (A : Nat) (ea : Int) (nb : Bool) (B : Nat) (eb : Int) : Nat := outAt E M (sumAt na A ea nb B eb (min ea eb)) (min ea eb)

theorem sumV_comm (E M : Nat) (na : Bool) (A : Nat) (ea : Int) (nb : Bool) (B : Nat) (eb : Int) : sumV E M na A ea nb B eb = sumV E M nb B eb na A ea := by
  unfold sumV sumAt
  rw [Int.min_comm, Int.add_comm]

/-- two spellings of one number -/
def SameN (A : Nat) (ea : Int) (B : Nat) (eb : Int) : Prop := ∀ c, c ≤ ea → c ≤ eb → A * 2 ^ (ea - c).toNat = B * 2 ^ (eb - c).toNat

theorem sumV_same (E M : Nat) (na : Bool) (A : Nat) (ea : Int) (nb : Bool) (B : Nat) (eb : Int) (A' : Nat) (ea' : Int) (B' : Nat) (eb' : Int) (h1 : SameN A ea A' ea') (h2 : SameN B eb B' eb') :
    sumV E M na A ea nb B eb = sumV E M na A' ea' nb B' eb' := by
  unfold sumV
  obtain ⟨c, g1, g2⟩ : ∃ c, c ≤ min ea eb ∧ c ≤ min ea' eb' := ⟨min (min ea eb) (min ea' eb'), by omega, by omega⟩
  rw [← outAt_any E M na A ea nb B eb (min ea eb) c (by omega) (by omega) g1, ← outAt_any E M na A' ea' nb B' eb' (min ea' eb') c (by omega) (by omega) g2]
  congr 1
  unfold sumAt
  rw [signedI, signedI, signedI, signedI, h1 c (by omega) (by omega), h2 c (by omega) (by omega)]

theorem sameN_of (m : Nat) (i : Int) (n : Nat) (j : Int) (h : m * 2 ^ i.toNat * 2 ^ (-j).toNat = n * 2 ^ j.toNat * 2 ^ (-i).toNat) : SameN m i n j := by
  intro c h1 h2
  have hp : 0 < 2 ^ ((-i).toNat + (-j).toNat + (c).toNat) := Nat.two_pow_pos _
  refine Nat.eq_of_mul_eq_mul_right hp ?_
  have e1 : m * 2 ^ (i - c).toNat * 2 ^ ((-i).toNat + (-j).toNat + c.toNat) = m * 2 ^ i.toNat * 2 ^ (-j).toNat * 2 ^ (-c).toNat := by
    rw [Nat.mul_assoc, Nat.mul_assoc, Nat.mul_assoc, ← Nat.pow_add, ← Nat.pow_add, ← Nat.pow_add]; congr 2; omega
  have e2 : n * 2 ^ (j - c).toNat * 2 ^ ((-i).toNat + (-j).toNat + c.toNat) = n * 2 ^ j.toNat * 2 ^ (-i).toNat * 2 ^ (-c).toNat := by
    rw [Nat.mul_assoc, Nat.mul_assoc, Nat.mul_assoc, ← Nat.pow_add, ← Nat.pow_add, ← Nat.pow_add]; congr 2; omega
  rw [e1, e2, h]

theorem sameN_up (m k : Nat) (i : Int) : SameN (m * 2 ^ k) (i - k) m i := by
  intro c h1 h2
  rw [Nat.mul_assoc, ← Nat.pow_add]; congr 2; omega

/-- the sum where the second is not the greater -/
theorem sumV_ge (E M : Nat) (na : Bool) (A : Nat) (ea : Int) (nb : Bool) (B : Nat) (eb : Int) (h : eb ≤ ea) (hle : B ≤ A * 2 ^ (ea - eb).toNat) :
    sumV E M na A ea nb B eb =
      if na = nb then (if A * 2 ^ (ea - eb).toNat + B = 0 then 0 else (Ieee.Format.mk E M).nearest na (A * 2 ^ (ea - eb).toNat + B) eb)
      else (if A * 2 ^ (ea - eb).toNat - B = 0 then 0 else (Ieee.Format.mk E M).nearest na (A * 2 ^ (ea - eb).toNat - B) eb) := by
  unfold sumV sumAt
  rw [Int.min_eq_right h, show (eb - eb).toNat = 0 by omega, signedI, signedI, Nat.pow_zero, Nat.mul_one]
  generalize A * 2 ^ (ea - eb).toNat = P at *
  unfold outAt
  cases na <;> cases nb <;> simp only [Bool.false_eq_true, Bool.true_eq_false, if_true, if_false]
  · by_cases c : P + B = 0
    · rw [if_pos c, if_pos (by omega)]
    · rw [if_neg c, if_neg (by omega), decide_eq_false (by omega), show (1 * (P : Int) + 1 * (B : Int)).natAbs = P + B by omega]
  · by_cases c : P - B = 0
    · rw [if_pos c, if_pos (by omega)]
    · rw [if_neg c, if_neg (by omega), decide_eq_false (by omega), show (1 * (P : Int) + -1 * (B : Int)).natAbs = P - B by omega]
  · by_cases c : P - B = 0
    · rw [if_pos c, if_pos (by omega)]
    · rw [if_neg c, if_neg (by omega), decide_eq_true (by omega), show (-1 * (P : Int) + 1 * (B : Int)).natAbs = P - B by omega]
  · by_cases c : P + B = 0
    · rw [if_pos c, if_pos (by omega)]
    · rw [if_neg c, if_neg (by omega), decide_eq_true (by omega), show (-1 * (P : Int) + -1 * (B : Int)).natAbs = P + B by omega]
end Go.Proofs.Ygcoaf
