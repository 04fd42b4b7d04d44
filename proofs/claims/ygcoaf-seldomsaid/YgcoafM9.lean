/-
  PLAIN LAWS, the ninth: words of 128 bits.
-/
import Derived.Test.YgcoafM8
namespace Go.Proofs.Ygcoaf
open Go.Proofs.Ygcoaf.M

/-- two words as one number -/
def two (h l : Nat) : Nat := h * 18446744073709551616 + l
theorem two_lt {h l : Nat} (hh : h < 18446744073709551616) (hl : l < 18446744073709551616) : two h l < 340282366920938463463374607431768211456 := by unfold two; omega
theorem two_inj {h l h' l' : Nat} (hl : l < 18446744073709551616) (hl' : l' < 18446744073709551616) (e : two h l = two h' l') : h = h' ∧ l = l' := by unfold two at e; omega

theorem or_sum (a b k : Nat) (ha : 2 ^ k ∣ a) (hb : b < 2 ^ k) : a ||| b = a + b := by
  obtain ⟨c, rfl⟩ := ha
  rw [Nat.two_pow_add_eq_or_of_lt hb]

theorem p64 : (2 : Nat) ^ 64 = 18446744073709551616 := by decide
theorem p128 : (2 : Nat) ^ 128 = 340282366920938463463374607431768211456 := by decide

theorem split64 {k : Nat} (hk : k ≤ 64) : 2 ^ k * 2 ^ (64 - k) = 18446744073709551616 := by rw [← Nat.pow_add, show k + (64 - k) = 64 by omega, p64]

/-- the upper word of a shift to the left -/
theorem shl_hi (h l k : Nat) (hk : k < 64) (hl : l < 18446744073709551616) :
    two ((h * 2 ^ k % 18446744073709551616) ||| (l / 2 ^ (64 - k))) (l * 2 ^ k % 18446744073709551616) = two h l * 2 ^ k % 340282366920938463463374607431768211456 ∧
      ((h * 2 ^ k % 18446744073709551616) ||| (l / 2 ^ (64 - k))) < 18446744073709551616 := by
  have hs := split64 (k := k) (by omega)
  have hp : 0 < 2 ^ k := Nat.two_pow_pos k
  have e1 : l / 2 ^ (64 - k) = l * 2 ^ k / 18446744073709551616 := by rw [← hs, Nat.mul_comm (2 ^ k), Nat.mul_div_mul_right _ _ hp]
  have d1 : 2 ^ k ∣ h * 2 ^ k % 18446744073709551616 := by
    rw [Nat.dvd_mod_iff ⟨2 ^ (64 - k), hs.symm⟩]; exact ⟨h, Nat.mul_comm _ _⟩
  have lt : l * 2 ^ k / 18446744073709551616 < 2 ^ k := by
    rw [Nat.div_lt_iff_lt_mul (by decide), Nat.mul_comm (2 ^ k)]; exact Nat.mul_lt_mul_of_pos_right hl hp
  have d2 : h * 2 ^ k % 18446744073709551616 + 2 ^ k ≤ 18446744073709551616 := by
    obtain ⟨c, hc⟩ := d1
    have hlt : h * 2 ^ k % 18446744073709551616 < 18446744073709551616 := Nat.mod_lt _ (by decide)
    rw [hc] at hlt ⊢
    rw [← hs] at hlt ⊢
    have := Nat.lt_of_mul_lt_mul_left hlt
    rw [← Nat.mul_succ]
    exact Nat.mul_le_mul_left _ this
  rw [e1, or_sum _ _ k d1 lt]
  unfold two
  rw [Nat.add_mul (h * _) l, Nat.mul_right_comm h 18446744073709551616 (2 ^ k)]
  generalize h * 2 ^ k = A at *
  generalize l * 2 ^ k = B at *
  generalize 2 ^ k = P at *
  omega

theorem shl_hi2 (h l k : Nat) (hk : 64 ≤ k) :
    two (l * 2 ^ (k - 64) % 18446744073709551616) 0 = two h l * 2 ^ k % 340282366920938463463374607431768211456 := by
  have e : 2 ^ k = 18446744073709551616 * 2 ^ (k - 64) := by rw [← p64, ← Nat.pow_add, show 64 + (k - 64) = k by omega]
  rw [e]
  unfold two
  rw [Nat.add_mul, Nat.mul_comm h, ← Nat.mul_assoc l, Nat.mul_right_comm l, show 18446744073709551616 * h * (18446744073709551616 * 2 ^ (k - 64)) = 340282366920938463463374607431768211456 * (h * 2 ^ (k - 64)) by rw [Nat.mul_mul_mul_comm]]
  generalize h * 2 ^ (k - 64) = A
  generalize l * 2 ^ (k - 64) = B
  omega

theorem shr_lo (h l k : Nat) (hk : k < 64) (hl : l < 18446744073709551616) :
    two (h / 2 ^ k) ((l / 2 ^ k) ||| (h * 2 ^ (64 - k) % 18446744073709551616)) = two h l / 2 ^ k ∧
      ((l / 2 ^ k) ||| (h * 2 ^ (64 - k) % 18446744073709551616)) < 18446744073709551616 := by
  have hs := split64 (k := k) (by omega)
  have hp : 0 < 2 ^ k := Nat.two_pow_pos k
  have hq : 0 < 2 ^ (64 - k) := Nat.two_pow_pos _
  have e1 : h * 2 ^ (64 - k) % 18446744073709551616 = h % 2 ^ k * 2 ^ (64 - k) := by rw [← hs, Nat.mul_mod_mul_right]
  have lt : l / 2 ^ k < 2 ^ (64 - k) := by
    rw [Nat.div_lt_iff_lt_mul hp, Nat.mul_comm, hs]; exact hl
  rw [e1, Nat.or_comm, or_sum _ _ (64 - k) ⟨_, Nat.mul_comm _ _⟩ lt]
  have hm : h % 2 ^ k < 2 ^ k := Nat.mod_lt _ hp
  constructor
  · unfold two
    have e2 : h * 18446744073709551616 + l = (h / 2 ^ k * 18446744073709551616 + h % 2 ^ k * 2 ^ (64 - k)) * 2 ^ k + l := by
      rw [Nat.add_mul, Nat.mul_assoc (h % 2 ^ k), Nat.mul_comm (2 ^ (64 - k)), hs, Nat.mul_right_comm, ← Nat.add_mul, Nat.mul_comm (h / 2 ^ k), Nat.div_add_mod]
    rw [e2, Nat.add_comm _ l, Nat.add_mul_div_right _ _ hp]
    generalize h / 2 ^ k * 18446744073709551616 = A
    generalize h % 2 ^ k * 2 ^ (64 - k) = B
    generalize l / 2 ^ k = C
    omega
  · have : h % 2 ^ k * 2 ^ (64 - k) + 2 ^ (64 - k) ≤ 18446744073709551616 := by
      rw [← Nat.succ_mul, ← hs]; exact Nat.mul_le_mul_right _ hm
    omega

theorem shr_lo2 (h l k : Nat) (hk : 64 ≤ k) (hl : l < 18446744073709551616) : two 0 (h / 2 ^ (k - 64)) = two h l / 2 ^ k := by
  have e : 2 ^ k = 18446744073709551616 * 2 ^ (k - 64) := by rw [← p64, ← Nat.pow_add, show 64 + (k - 64) = k by omega]
  rw [e, ← Nat.div_div_eq_div_mul]
  unfold two
  rw [show (h * 18446744073709551616 + l) / 18446744073709551616 = h by omega]
  omega

theorem st_eq (n d : Nat) : st n d = if n / d * d = n then n / d else n / d ||| 1 := by
  by_cases h : n % d = 0
  · rw [st_even n d h, if_pos (by have := Nat.div_add_mod n d; rw [Nat.mul_comm] at this; omega)]
  · rw [st_odd n d h, or_one, if_neg (by have := Nat.div_add_mod n d; rw [Nat.mul_comm] at this; omega)]

theorem two_or (h l : Nat) : two h l ||| 1 = two h (l ||| 1) := by
  rw [or_one, or_one]; unfold two; omega

/-- what holds at the head of divHalf's rounds -/
structure Half (hi next d1 d0 : Nat) (q rest : Nat) : Prop where
  sum : q * d1 + rest = hi
  low : (hi * 4294967296 + next) / (d1 * 4294967296 + d0) ≤ q
  top : q ≤ 4294967297

theorem half_lt {hi next d1 d0 : Nat} (hd : hi < d1 * 4294967296 + d0) (hn : next < 4294967296) : (hi * 4294967296 + next) / (d1 * 4294967296 + d0) < 4294967296 := by
  rw [Nat.div_lt_iff_lt_mul (by omega)]; omega

theorem half_start {hi next d1 d0 : Nat} (hd : hi < d1 * 4294967296 + d0) (hn : next < 4294967296) (h1 : 2147483648 ≤ d1) (h0 : d0 < 4294967296) : Half hi next d1 d0 (hi / d1) (hi % d1) := by
  refine ⟨by rw [Nat.mul_comm]; exact Nat.div_add_mod _ _, ?_, ?_⟩
  · rw [Nat.le_div_iff_mul_le (by omega)]
    have := Nat.div_mul_le_self (hi * 4294967296 + next) (d1 * 4294967296 + d0)
    generalize (hi * 4294967296 + next) / (d1 * 4294967296 + d0) = Q at *
    rw [Nat.mul_add, ← Nat.mul_assoc] at this
    generalize Q * d1 = A at *
    generalize Q * d0 = B at *
    omega
  · have : hi / d1 < 4294967298 := by rw [Nat.div_lt_iff_lt_mul (by omega)]; omega
    omega

theorem half_more {hi next d1 d0 q rest : Nat} (hd : hi < d1 * 4294967296 + d0) (hn : next < 4294967296) (h : Half hi next d1 d0 q rest) (ht : 4294967295 < q ∨ rest * 4294967296 + next < q * d0) : 1 ≤ q ∧ Half hi next d1 d0 (q - 1) (rest + d1) := by
  have hlt : (hi * 4294967296 + next) / (d1 * 4294967296 + d0) < q := by
    rcases ht with ht | ht
    · exact Nat.lt_of_lt_of_le (half_lt hd hn) ht
    · rw [Nat.div_lt_iff_lt_mul (by omega), Nat.mul_add, ← Nat.mul_assoc]
      have hs := h.sum
      have key : ∀ A B : Nat, A + rest = hi → rest * 4294967296 + next < B → hi * 4294967296 + next < A * 4294967296 + B := by intro A B; omega
      exact key _ _ hs ht
  obtain ⟨p, rfl⟩ : ∃ p, q = p + 1 := ⟨q - 1, (Nat.succ_pred_eq_of_pos (Nat.lt_of_le_of_lt (Nat.zero_le _) hlt)).symm⟩
  have hs := h.sum
  have ht' := h.top
  rw [Nat.succ_mul] at hs
  refine ⟨by omega, ?_, Nat.le_of_lt_succ hlt, by omega⟩
  simp only [Nat.add_sub_cancel]
  omega

theorem half_end {hi next d1 d0 q rest : Nat} (h0 : d0 < 4294967296) (hp : 0 < d1) (h : Half hi next d1 d0 q rest) (ht : 4294967295 < rest ∨ (q ≤ 4294967295 ∧ q * d0 ≤ rest * 4294967296 + next)) : q = (hi * 4294967296 + next) / (d1 * 4294967296 + d0) := by
  refine Nat.le_antisymm ?_ h.low
  rw [Nat.le_div_iff_mul_le (by omega), Nat.mul_add, ← Nat.mul_assoc]
  have hs := h.sum
  have hq : q * d0 ≤ rest * 4294967296 + next := by
    rcases ht with ht | ht
    · have : q * d0 ≤ 4294967297 * 4294967295 := Nat.mul_le_mul h.top (by omega)
      omega
    · exact ht.2
  generalize q * d1 = A at *
  generalize q * d0 = B at *
  omega

/-- the whole quotient out of its two halves -/
theorem div_halves (h l d : Nat) (hd : 0 < d) :
    let r1 := (h * 4294967296 + l / 4294967296) % d
    let q1 := (h * 4294967296 + l / 4294967296) / d
    let q0 := (r1 * 4294967296 + l % 4294967296) / d
    q1 * 4294967296 + q0 = two h l / d ∧ (r1 * 4294967296 + l % 4294967296) % d = two h l % d := by
  intro r1 q1 q0
  have e : two h l = (r1 * 4294967296 + l % 4294967296) + d * (q1 * 4294967296) := by
    have := Nat.div_add_mod (h * 4294967296 + l / 4294967296) d
    show h * 18446744073709551616 + l = _
    rw [← Nat.mul_assoc]
    show _ = ((h * 4294967296 + l / 4294967296) % d * 4294967296 + l % 4294967296) + d * ((h * 4294967296 + l / 4294967296) / d) * 4294967296
    generalize d * ((h * 4294967296 + l / 4294967296) / d) = A at *
    generalize (h * 4294967296 + l / 4294967296) % d = B at *
    omega
  rw [e, Nat.add_mul_div_left _ _ hd, Nat.add_mul_mod_self_left]
  exact ⟨Nat.add_comm _ _, rfl⟩
end Go.Proofs.Ygcoaf
