/-
  THE PLAIN MATHEMATICS OF soft.roundPack under NearestEven: it is the model's 'nearest'.
-/
import Derived.Test.YgcoafM5
namespace Go.Proofs.Ygcoaf
open Go.Proofs.Ygcoaf.M

/-- what the sign adds -/
def sgn (E M : Nat) (neg : Bool) : Nat := if neg then 2 ^ (E + M) else 0

/-- the least normal exponent -/
def lo (E : Nat) : Int := 1 - biasN E

theorem cast_two_pow (n : Nat) : (((2 ^ n : Nat)) : Int) = (2 : Int) ^ n := by simp
theorem two_pow_le {a b : Nat} (h : a ≤ b) : 2 ^ a ≤ 2 ^ b := Nat.pow_le_pow_right (by decide) h

theorem loOf_eq (E M : Nat) : loOf (Ieee.Format.mk E M) = lo E := by
  unfold loOf lo biasN Ieee.Format.leastPlace
  simp only
  omega

theorem word_eq (E M : Nat) (neg : Bool) (r : Nat) : (Ieee.Format.mk E M).word neg r = r + sgn E M neg := by
  unfold Ieee.Format.word sgn Ieee.Format.signWeight
  cases neg
  · simp
  · simp [Nat.add_comm]

theorem infRung_eq (E M : Nat) : (Ieee.Format.mk E M).infRung = infR E M := rfl

/-- the exponent that is kept -/
def keptE (E : Nat) (exp : Int) (sig : Nat) : Int := max (exp + sig.log2) (lo E)

/-- how many bits are cut off a significand whose leading bit is bit 63 -/
def dropK (E M : Nat) (exp : Int) (sig : Nat) : Nat := 63 - M + (keptE E exp sig - (exp + sig.log2)).toNat

/-- the rung, ahead of the test for overflow -/
def rungK (E M : Nat) (neg : Bool) (exp : Int) (sig : Nat) : Nat :=
  (keptE E exp sig - lo E).toNat * 2 ^ M + rnd 0 neg (sig * 2 ^ (63 - sig.log2)) (2 ^ dropK E M exp sig)

theorem nearest_soft (E M : Nat) (hM : M ≤ 52) (neg : Bool) (exp : Int) (sig : Nat) (h0 : sig ≠ 0) (h : sig < 2 ^ 64) :
    (Ieee.Format.mk E M).nearest neg sig exp = min (rungK E M neg exp sig) (infR E M) + sgn E M neg := by
  have hl : sig.log2 < 64 := (Nat.log2_lt h0).2 h
  rw [nearest_eq _ _ _ _ h0, word_eq, infRung_eq, loOf_eq]
  show min (rungOf M (lo E) 0 neg (sig * 2 ^ exp.toNat) (2 ^ (-exp).toNat) (keptE E exp sig)) (infR E M) + sgn E M neg = _
  rw [rungOf_shift M (lo E) 0 neg sig exp (keptE E exp sig) (63 - sig.log2) (dropK E M exp sig)]
  · rfl
  · unfold dropK keptE; omega

theorem nearest_zero (E M : Nat) (neg : Bool) (exp : Int) : (Ieee.Format.mk E M).nearest neg 0 exp = sgn E M neg := by
  unfold Ieee.Format.nearest
  rw [if_pos rfl, word_eq, Nat.zero_add]

/-- the significand moved up -/
theorem top_bd (sig : Nat) (h0 : sig ≠ 0) (h : sig < 2 ^ 64) : 2 ^ 63 ≤ sig * 2 ^ (63 - sig.log2) ∧ sig * 2 ^ (63 - sig.log2) < 2 ^ 64 := by
  have hl : sig.log2 < 64 := (Nat.log2_lt h0).2 h
  have a := Nat.log2_self_le h0
  have b : sig < 2 ^ (sig.log2 + 1) := Nat.lt_log2_self
  constructor
  · calc 2 ^ 63 = 2 ^ sig.log2 * 2 ^ (63 - sig.log2) := by rw [← Nat.pow_add]; congr 1; omega
      _ ≤ _ := Nat.mul_le_mul_right _ a
  · calc sig * 2 ^ (63 - sig.log2) < 2 ^ (sig.log2 + 1) * 2 ^ (63 - sig.log2) := Nat.mul_lt_mul_of_pos_right b (Nat.two_pow_pos _)
      _ = 2 ^ 64 := by rw [← Nat.pow_add]; congr 1; omega

theorem rnd_le (mode : Nat) (neg : Bool) (n d : Nat) : rnd mode neg n d ≤ n / d + 1 := by
  unfold rnd; cases ups mode neg n d <;> simp
theorem le_rnd (mode : Nat) (neg : Bool) (n d : Nat) : n / d ≤ rnd mode neg n d := by
  unfold rnd; omega

theorem bias_two {E : Nat} (h1 : 2 ≤ E) : 2 * biasN E + 2 = 2 ^ E := by
  unfold biasN
  have : (2 : Int) ^ E = 2 * 2 ^ (E - 1) := by
    obtain ⟨k, rfl⟩ : ∃ k, E = k + 1 := ⟨E - 1, by omega⟩
    rw [Int.pow_succ, Nat.add_sub_cancel]; omega
  omega

/-- past the greatest exponent: overflow -/
theorem rungK_over {E M : Nat} (h1 : 2 ≤ E) (hM : M ≤ 52) (neg : Bool) (exp : Int) (sig : Nat) (h0 : sig ≠ 0) (h : sig < 2 ^ 64) (ho : biasN E < keptE E exp sig) : infR E M ≤ rungK E M neg exp sig := by
  have hb := bias_two h1
  have hE : (2 : Int) ^ 2 ≤ 2 ^ E := by rw [← cast_two_pow, ← cast_two_pow]; exact_mod_cast two_pow_le h1
  have hk : keptE E exp sig = exp + sig.log2 := by unfold keptE lo at *; omega
  have hd : dropK E M exp sig = 63 - M := by unfold dropK; rw [hk]; omega
  obtain ⟨t1, t2⟩ := top_bd sig h0 h
  have hn : 2 ^ M ≤ rnd 0 neg (sig * 2 ^ (63 - sig.log2)) (2 ^ dropK E M exp sig) := by
    refine Nat.le_trans ?_ (le_rnd _ _ _ _)
    rw [hd, Nat.le_div_iff_mul_le (Nat.two_pow_pos _), ← Nat.pow_add, show M + (63 - M) = 63 by omega]
    exact t1
  have hx : 2 ^ E - 2 ≤ (keptE E exp sig - lo E).toNat := by
    have : (2 ^ E : Nat) = (2 * biasN E + 2).toNat := by rw [hb, ← cast_two_pow, Int.toNat_natCast]
    unfold lo; omega
  unfold rungK infR
  have hE' : 2 ^ 2 ≤ 2 ^ E := two_pow_le h1
  calc (2 ^ E - 1) * 2 ^ M = (2 ^ E - 2) * 2 ^ M + 2 ^ M := by rw [← Nat.succ_mul]; congr 1; omega
    _ ≤ _ := Nat.add_le_add (Nat.mul_le_mul_right _ hx) hn

theorem drop_ge (E M : Nat) (exp : Int) (sig : Nat) : 63 - M ≤ dropK E M exp sig := by unfold dropK; omega

/-- within the range nothing wraps -/
theorem rungK_bd {E M : Nat} (h1 : 2 ≤ E) (h2 : E ≤ 11) (hM : M ≤ 52) (exp : Int) (sig : Nat) (h0 : sig ≠ 0) (h : sig < 2 ^ 64) (ho : ¬ biasN E < keptE E exp sig) :
    (keptE E exp sig - lo E).toNat * 2 ^ M ≤ 2 ^ 63 ∧ sig * 2 ^ (63 - sig.log2) / 2 ^ dropK E M exp sig < 2 ^ 53 := by
  have hb := bias_two h1
  obtain ⟨t1, t2⟩ := top_bd sig h0 h
  have hd := drop_ge E M exp sig
  constructor
  · have hx : (keptE E exp sig - lo E).toNat ≤ 2 ^ E := by
      have : (2 ^ E : Nat) = (2 * biasN E + 2).toNat := by rw [hb, ← cast_two_pow, Int.toNat_natCast]
      unfold lo; omega
    calc _ ≤ 2 ^ E * 2 ^ M := Nat.mul_le_mul_right _ hx
      _ = 2 ^ (E + M) := by rw [Nat.pow_add]
      _ ≤ 2 ^ 63 := two_pow_le (by omega)
  · rw [Nat.div_lt_iff_lt_mul (Nat.two_pow_pos _)]
    calc _ < 2 ^ 64 := t2
      _ = 2 ^ 53 * 2 ^ 11 := by decide
      _ ≤ 2 ^ 53 * 2 ^ dropK E M exp sig := Nat.mul_le_mul_left _ (two_pow_le (by omega))

/-- what soft.cut leaves below, as a fraction of 2^64 -/
def cutRest (s k : Nat) : Nat := if k ≤ 64 then s * 2 ^ (64 - k) % 2 ^ 64 else if s = 0 then 0 else 1

theorem cutRest_lt (s k : Nat) : cutRest s k < 2 ^ 64 := by
  unfold cutRest; split
  · exact Nat.mod_lt _ (by decide)
  · split <;> decide

theorem cutRest_spec (s k : Nat) (hs : s < 2 ^ 64) : (cutRest s k = 0 ↔ s % 2 ^ k = 0) ∧ (2 ^ 63 < cutRest s k ↔ 2 ^ k < 2 * (s % 2 ^ k)) ∧ (cutRest s k = 2 ^ 63 ↔ 2 ^ k = 2 * (s % 2 ^ k)) := by
  unfold cutRest
  by_cases h : k ≤ 64
  · rw [if_pos h]
    have e : 2 ^ 64 = 2 ^ k * 2 ^ (64 - k) := by rw [← Nat.pow_add]; congr 1; omega
    have e2 : 2 * 2 ^ 63 = 2 ^ k * 2 ^ (64 - k) := by rw [← e]
    have hc := Nat.two_pow_pos (64 - k)
    rw [e, Nat.mul_mod_mul_right]
    generalize 2 ^ (64 - k) = c at *
    generalize s % 2 ^ k = r at *
    generalize 2 ^ k = d at *
    refine ⟨?_, ?_, ?_⟩
    · rw [Nat.mul_eq_zero]; omega
    · constructor
      · intro h; rcases Nat.lt_or_ge d (2 * r) with g | g
        · exact g
        · have := Nat.mul_le_mul_right c g; rw [Nat.mul_assoc] at this; omega
      · intro h; have := (Nat.mul_lt_mul_right hc).2 h; rw [Nat.mul_assoc] at this; omega
    · constructor
      · intro h; exact Nat.eq_of_mul_eq_mul_right hc (by rw [Nat.mul_assoc]; omega)
      · intro h; rw [h, Nat.mul_assoc] at e2; omega
  · rw [if_neg h]
    have hk : 2 ^ 65 ≤ 2 ^ k := two_pow_le (by omega)
    rw [Nat.mod_eq_of_lt (by omega)]
    by_cases s0 : s = 0
    · subst s0; simp
    · rw [if_neg s0]; omega

/-- soft.raises' rule under NearestEven is the plain rule -/
theorem raises_even (neg : Bool) (s k : Nat) (hs : s < 2 ^ 64) : (decide (2 ^ 63 < cutRest s k) || (decide (cutRest s k = 2 ^ 63) && decide (s / 2 ^ k % 2 = 1))) = ups 0 neg s (2 ^ k) := by
  obtain ⟨_, h2, h3⟩ := cutRest_spec s k hs
  unfold ups
  simp only [h2, h3]
  rw [Bool.eq_iff_iff]
  simp
end Go.Proofs.Ygcoaf
