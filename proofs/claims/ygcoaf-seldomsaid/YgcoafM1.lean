/-
  THE PLAIN MATHEMATICS OF ROUNDING (no Go in sight): the floor of n/d raised by a mode's rule; it hangs on the fraction alone; a sticky bit serves as well as the fraction.
-/
import Ieee.Arith
namespace Go.Proofs.Ygcoaf.M

/-- whether the floor of n/d goes up by one: mode 1 nearest away, 2 toward zero, 3 up, 4 down, else nearest even -/
def ups (mode : Nat) (neg : Bool) (n d : Nat) : Bool :=
  if mode = 1 then decide (d ≤ 2 * (n % d))
  else if mode = 2 then false
  else if mode = 3 then (!(n % d == 0) && !neg)
  else if mode = 4 then (!(n % d == 0) && neg)
  else (decide (d < 2 * (n % d)) || (d == 2 * (n % d) && n / d % 2 == 1))

def rnd (mode : Nat) (neg : Bool) (n d : Nat) : Nat := n / d + (ups mode neg n d).toNat

theorem ups_scale (mode : Nat) (neg : Bool) (n d c : Nat) (hc : 0 < c) : ups mode neg (n * c) (d * c) = ups mode neg n d := by
  unfold ups
  rw [Nat.mul_mod_mul_right, Nat.mul_div_mul_right _ _ hc]
  have e1 : (n % d * c == 0) = (n % d == 0) := by
    rw [Bool.eq_iff_iff]; simp only [beq_iff_eq, Nat.mul_eq_zero]; omega
  have e2 : decide (d * c ≤ 2 * (n % d * c)) = decide (d ≤ 2 * (n % d)) := by
    rw [decide_eq_decide, ← Nat.mul_assoc]; exact Nat.mul_le_mul_right_iff hc
  have e3 : decide (d * c < 2 * (n % d * c)) = decide (d < 2 * (n % d)) := by
    rw [decide_eq_decide, ← Nat.mul_assoc]; exact Nat.mul_lt_mul_right hc
  have e4 : (d * c == 2 * (n % d * c)) = (d == 2 * (n % d)) := by
    rw [Bool.eq_iff_iff]; simp only [beq_iff_eq]; rw [← Nat.mul_assoc]; exact Nat.mul_right_cancel_iff hc
  rw [e1, e2, e3, e4]

theorem rnd_scale (mode : Nat) (neg : Bool) (n d c : Nat) (hc : 0 < c) : rnd mode neg (n * c) (d * c) = rnd mode neg n d := by
  unfold rnd; rw [ups_scale _ _ _ _ _ hc, Nat.mul_div_mul_right _ _ hc]

/-- two fractions that are equal round alike -/
theorem rnd_eq (mode : Nat) (neg : Bool) (n d n' d' : Nat) (hd : 0 < d) (hd' : 0 < d') (h : n * d' = n' * d) : rnd mode neg n d = rnd mode neg n' d' := by
  rw [← rnd_scale mode neg n d d' hd', ← rnd_scale mode neg n' d' d hd, h, Nat.mul_comm d d']

theorem ups_eq (mode : Nat) (neg : Bool) (n d n' d' : Nat) (hd : 0 < d) (hd' : 0 < d') (h : n * d' = n' * d) : ups mode neg n d = ups mode neg n' d' := by
  rw [← ups_scale mode neg n d d' hd', ← ups_scale mode neg n' d' d hd, h, Nat.mul_comm d d']

/-- the floor of n/d, its lowest bit set where anything is left -/
def st (n d : Nat) : Nat := if n % d = 0 then n / d else n / d ||| 1

theorem or_one (x : Nat) : x ||| 1 = 2 * (x / 2) + 1 := by
  have h1 : (x ||| 1) / 2 = x / 2 := by rw [Nat.or_div_two]; simp
  have h2 : (x ||| 1) % 2 = 1 := by rw [Nat.or_mod_two_eq_one]; simp
  omega

theorem st_half (n d : Nat) : st n d / 2 = n / d / 2 := by
  unfold st; split
  · rfl
  · rw [or_one]; omega

theorem st_odd (n d : Nat) (h : n % d ≠ 0) : st n d = 2 * (n / d / 2) + 1 := by
  unfold st; rw [if_neg h, or_one]

theorem st_even (n d : Nat) (h : n % d = 0) : st n d = n / d := by
  unfold st; rw [if_pos h]

theorem st_div (n d k : Nat) (hk : 1 ≤ k) : st n d / 2 ^ k = n / (d * 2 ^ k) := by
  obtain ⟨j, rfl⟩ : ∃ j, k = j + 1 := ⟨k - 1, by omega⟩
  rw [← Nat.div_div_eq_div_mul, Nat.pow_succ, Nat.mul_comm (2 ^ j) 2, ← Nat.div_div_eq_div_mul, ← Nat.div_div_eq_div_mul, st_half]

theorem mod_mul' (n d e : Nat) : n % (d * e) = n % d + d * (n / d % e) := Nat.mod_mul

theorem ups_st (mode : Nat) (neg : Bool) (n d k : Nat) (hd : 0 < d) (hk : 2 ≤ k) : ups mode neg (st n d) (2 ^ k) = ups mode neg n (d * 2 ^ k) := by
  have h4 : 2 ^ k = 4 * 2 ^ (k - 2) := by
    rw [show k = (k - 2) + 2 by omega, Nat.pow_add, show (k - 2 + 2 - 2) = k - 2 by omega]; omega
  have hp : 0 < 2 ^ (k - 2) := Nat.two_pow_pos _
  generalize 2 ^ (k - 2) = E at h4 hp
  by_cases h0 : n % d = 0
  · have hs := st_even n d h0
    have e : n = n / d * d := by have := Nat.div_add_mod n d; rw [h0] at this; rw [Nat.mul_comm]; omega
    rw [hs]
    conv => rhs; rw [e, Nat.mul_comm d]
    rw [ups_scale _ _ _ _ _ hd]
  · have hs := st_odd n d h0
    have hq := st_div n d k (by omega)
    have hm := mod_mul' n d (2 ^ k)
    have hr : n % d < d := Nat.mod_lt _ hd
    generalize hA : n / d % 2 ^ k = a at hm
    generalize n % d = b at hm hr h0
    have hm2 : st n d % 2 ^ k = 2 * (a / 2) + 1 := by
      rw [hs, ← hA, h4]
      generalize n / d = x
      rw [show 4 * E = 2 * (2 * E) by omega]
      have h1 : x % (2 * (2 * E)) = x % 2 + 2 * (x / 2 % (2 * E)) := Nat.mod_mul
      have h2 : (2 * (x / 2) + 1) % (2 * (2 * E)) = (2 * (x / 2) + 1) % 2 + 2 * ((2 * (x / 2) + 1) / 2 % (2 * E)) := Nat.mod_mul
      rw [show (2 * (x / 2) + 1) / 2 = x / 2 by omega] at h2
      omega
    have ha : a < 2 ^ k := by rw [← hA]; exact Nat.mod_lt _ (Nat.two_pow_pos _)
    unfold ups
    rw [hq, hm2, hm, h4]
    have n0 : (2 * (a / 2) + 1 == 0) = false := by simp
    have n0' : (b + d * a == 0) = false := by rw [beq_eq_false_iff_ne]; omega
    have key : ∀ E, d * (4 * E) = d * (2 * E) + d * (2 * E) := fun E => by rw [← Nat.mul_add]; congr 1; omega
    have c1 : a < 2 * E → 2 * (b + d * a) < d * (4 * E) := by
      intro h
      have : d * (a + 1) ≤ d * (2 * E) := Nat.mul_le_mul_left _ h
      rw [Nat.mul_add, Nat.mul_one] at this
      have := key E
      omega
    have c2 : 2 * E ≤ a → d * (4 * E) < 2 * (b + d * a) := by
      intro h
      have : d * (2 * E) ≤ d * a := Nat.mul_le_mul_left _ h
      have := key E
      omega
    rw [n0, n0']
    by_cases hlt : a < 2 * E
    · have := c1 hlt
      have e1 : decide (4 * E ≤ 2 * (2 * (a / 2) + 1)) = false := by simp; omega
      have e2 : decide (d * (4 * E) ≤ 2 * (b + d * a)) = false := by simp; omega
      have e3 : decide (4 * E < 2 * (2 * (a / 2) + 1)) = false := by simp; omega
      have e4 : decide (d * (4 * E) < 2 * (b + d * a)) = false := by simp; omega
      have e5 : (4 * E == 2 * (2 * (a / 2) + 1)) = false := by simp; omega
      have e6 : (d * (4 * E) == 2 * (b + d * a)) = false := by simp; omega
      rw [e1, e2, e3, e4, e5, e6]
    · have := c2 (by omega)
      have e1 : decide (4 * E ≤ 2 * (2 * (a / 2) + 1)) = true := by simp; omega
      have e2 : decide (d * (4 * E) ≤ 2 * (b + d * a)) = true := by simp; omega
      have e3 : decide (4 * E < 2 * (2 * (a / 2) + 1)) = true := by simp; omega
      have e4 : decide (d * (4 * E) < 2 * (b + d * a)) = true := by simp; omega
      rw [e1, e2, e3, e4]; rfl

/-- THE STICKY BIT: where two bits or more are cut off, the floor with its sticky bit rounds as the fraction itself. -/
theorem rnd_st (mode : Nat) (neg : Bool) (n d k : Nat) (hd : 0 < d) (hk : 2 ≤ k) : rnd mode neg (st n d) (2 ^ k) = rnd mode neg n (d * 2 ^ k) := by
  unfold rnd; rw [ups_st _ _ _ _ _ hd hk, st_div _ _ _ (by omega)]

/-- a sticky bit of a sticky bit -/
theorem st_st (n d k : Nat) (hd : 0 < d) : st (st n d) (2 ^ k) = st n (d * 2 ^ k) := by
  cases k with
  | zero => simp [st, Nat.mod_one]
  | succ j =>
    have hq := st_div n d (j + 1) (by omega)
    have hm := mod_mul' n d (2 ^ (j + 1))
    have hp : 2 ^ (j + 1) = 2 * 2 ^ j := by rw [Nat.pow_succ, Nat.mul_comm]
    by_cases h0 : n % d = 0
    · rw [st_even n d h0] at hq ⊢
      rw [h0] at hm
      unfold st
      rw [hq, hm]
      have : (n / d % 2 ^ (j + 1) = 0) ↔ (0 + d * (n / d % 2 ^ (j + 1)) = 0) := by
        rw [Nat.zero_add, Nat.mul_eq_zero]; omega
      simp only [this]
    · have h1 : st n d % 2 ^ (j + 1) ≠ 0 := by
        rw [st_odd n d h0, hp]
        have h2 : (2 * (n / d / 2) + 1) % (2 * 2 ^ j) = (2 * (n / d / 2) + 1) % 2 + 2 * ((2 * (n / d / 2) + 1) / 2 % 2 ^ j) := Nat.mod_mul
        omega
      have h2 : n % (d * 2 ^ (j + 1)) ≠ 0 := by rw [hm]; omega
      rw [st_odd _ _ h1, st_odd _ _ h2, hq]

end Go.Proofs.Ygcoaf.M
