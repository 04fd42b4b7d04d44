/-
  THE MODEL's 'nearest' (Ieee) SAID OF A FRACTION: the rung of N/D, given its binary exponent.
-/
import Derived.Test.YgcoafM1
namespace Go.Proofs.Ygcoaf.M

/-- the rung of the fraction N/D whose exponent is held at e: M fraction bits, lo the least exponent -/
def rungOf (M : Nat) (lo : Int) (mode : Nat) (neg : Bool) (N D : Nat) (e : Int) : Nat :=
  (e - lo).toNat * 2 ^ M + rnd mode neg (N * 2 ^ ((M : Int) - e).toNat) (D * 2 ^ (e - M).toNat)

/-- 2^r <= N/D < 2^(r+1) -/
def IsLog (N D : Nat) (r : Int) : Prop := 0 < D ∧ D * 2 ^ r.toNat ≤ N * 2 ^ (-r).toNat ∧ N * 2 ^ (-(r + 1)).toNat < D * 2 ^ (r + 1).toNat

theorem two_pow_pos' (k : Nat) : 0 < 2 ^ k := Nat.two_pow_pos k

theorem rungOf_eq (M : Nat) (lo : Int) (mode : Nat) (neg : Bool) (N D N' D' : Nat) (e : Int) (hD : 0 < D) (hD' : 0 < D') (h : N * D' = N' * D) :
    rungOf M lo mode neg N D e = rungOf M lo mode neg N' D' e := by
  unfold rungOf
  congr 1
  refine rnd_eq _ _ _ _ _ _ (Nat.mul_pos hD (two_pow_pos' _)) (Nat.mul_pos hD' (two_pow_pos' _)) ?_
  generalize 2 ^ ((M : Int) - e).toNat = a
  generalize 2 ^ (e - (M : Int)).toNat = b
  calc N * a * (D' * b) = N * D' * (a * b) := by ac_rfl
    _ = N' * D * (a * b) := by rw [h]
    _ = N' * a * (D * b) := by ac_rfl

/-- the exponent is one -/
theorem IsLog.unique {N D N' D' : Nat} {r r' : Int} (h : N * D' = N' * D) (a : IsLog N D r) (b : IsLog N' D' r') : r = r' := by
  have main : ∀ (N D N' D' : Nat) (r r' : Int), N * D' = N' * D → IsLog N D r → IsLog N' D' r' → ¬ r < r' := by
    intro N D N' D' r r' h ⟨hD, _, h2⟩ ⟨hD', h3, _⟩ hlt
    obtain ⟨j, hj⟩ : ∃ j : Nat, r' = r + 1 + j := ⟨(r' - (r + 1)).toNat, by omega⟩
    -- N * 2^x < D * 2^y ; D' * 2^u <= N' * 2^v ; y + v <= x + u
    have e1 : N * 2 ^ (-(r + 1)).toNat * (D' * 2 ^ r'.toNat) < D * 2 ^ (r + 1).toNat * (N' * 2 ^ (-r').toNat) := by
      calc N * 2 ^ (-(r + 1)).toNat * (D' * 2 ^ r'.toNat) < D * 2 ^ (r + 1).toNat * (D' * 2 ^ r'.toNat) :=
            Nat.mul_lt_mul_of_pos_right h2 (Nat.mul_pos hD' (two_pow_pos' _))
        _ ≤ D * 2 ^ (r + 1).toNat * (N' * 2 ^ (-r').toNat) := Nat.mul_le_mul_left _ h3
    have e2 : N * 2 ^ (-(r + 1)).toNat * (D' * 2 ^ r'.toNat) = N * D' * 2 ^ ((-(r + 1)).toNat + r'.toNat) := by rw [Nat.pow_add]; ac_rfl
    have e3 : D * 2 ^ (r + 1).toNat * (N' * 2 ^ (-r').toNat) = N' * D * 2 ^ ((r + 1).toNat + (-r').toNat) := by rw [Nat.pow_add]; ac_rfl
    rw [e2, e3, h] at e1
    have : 2 ^ ((r + 1).toNat + (-r').toNat) ≤ 2 ^ ((-(r + 1)).toNat + r'.toNat) := Nat.pow_le_pow_right (by decide) (by omega)
    have := Nat.mul_le_mul_left (N' * D) this
    omega
  have h1 := main N D N' D' r r' h a b
  have h2 := main N' D' N D r' r h.symm b a
  omega

theorem cut_eq (neg : Bool) (n drop : Nat) : Ieee.Toward.even.cut neg n drop = rnd 0 neg n (2 ^ drop) := by
  unfold Ieee.Toward.cut rnd ups
  simp only [Nat.one_shiftLeft]
  by_cases h : drop ≤ n.log2 + 2
  · rw [Nat.min_eq_left h]
    simp
  · have hn : n < 2 ^ (n.log2 + 1) := Nat.lt_log2_self
    rw [Nat.min_eq_right (by omega)]
    have h1 : 2 ^ (n.log2 + 2) = 2 * 2 ^ (n.log2 + 1) := by rw [Nat.pow_succ]; omega
    have h2 : 2 ^ (n.log2 + 2) ≤ 2 ^ drop := Nat.pow_le_pow_right (by decide) (by omega)
    rw [Nat.div_eq_of_lt (by omega), Nat.div_eq_of_lt (by omega), Nat.mod_eq_of_lt (a := n) (b := 2 ^ (n.log2 + 2)) (by omega), Nat.mod_eq_of_lt (a := n) (b := 2 ^ drop) (by omega)]
    have a1 : decide (2 ^ (n.log2 + 2) < 2 * n) = false := by simp; omega
    have a2 : decide (2 ^ drop < 2 * n) = false := by simp; omega
    rw [a1, a2]
    simp

theorem log2_le (n : Nat) (h : n ≠ 0) : 2 ^ n.log2 ≤ n := Nat.log2_self_le h
theorem lt_log2 (n : Nat) : n < 2 ^ (n.log2 + 1) := Nat.lt_log2_self

theorem isLog_mag (mag : Nat) (place : Int) (h : mag ≠ 0) : IsLog (mag * 2 ^ place.toNat) (2 ^ (-place).toNat) (place + mag.log2) := by
  have h1 := log2_le mag h
  have h2 := lt_log2 mag
  refine ⟨two_pow_pos' _, ?_, ?_⟩
  · calc 2 ^ (-place).toNat * 2 ^ (place + (mag.log2 : Int)).toNat = 2 ^ ((-place).toNat + (place + (mag.log2 : Int)).toNat) := by rw [Nat.pow_add]
      _ = 2 ^ (mag.log2 + (place.toNat + (-(place + (mag.log2 : Int))).toNat)) := by congr 1; omega
      _ = 2 ^ mag.log2 * (2 ^ (place.toNat + (-(place + (mag.log2 : Int))).toNat)) := by rw [Nat.pow_add]
      _ ≤ mag * (2 ^ (place.toNat + (-(place + (mag.log2 : Int))).toNat)) := Nat.mul_le_mul_right _ h1
      _ = mag * 2 ^ place.toNat * 2 ^ (-(place + (mag.log2 : Int))).toNat := by rw [Nat.pow_add]; ac_rfl
  · calc mag * 2 ^ place.toNat * 2 ^ (-(place + (mag.log2 : Int) + 1)).toNat = mag * (2 ^ (place.toNat + (-(place + (mag.log2 : Int) + 1)).toNat)) := by rw [Nat.pow_add]; ac_rfl
      _ < 2 ^ (mag.log2 + 1) * (2 ^ (place.toNat + (-(place + (mag.log2 : Int) + 1)).toNat)) := Nat.mul_lt_mul_of_pos_right h2 (two_pow_pos' _)
      _ = 2 ^ (mag.log2 + 1 + (place.toNat + (-(place + (mag.log2 : Int) + 1)).toNat)) := by rw [Nat.pow_add (m := mag.log2 + 1)]
      _ = 2 ^ ((-place).toNat + (place + (mag.log2 : Int) + 1).toNat) := by congr 1; omega
      _ = 2 ^ (-place).toNat * 2 ^ (place + (mag.log2 : Int) + 1).toNat := by rw [Nat.pow_add]

/-- the rung of mag * 2^place, by one shift: l = e - M is the place of the last digit kept -/
theorem rungOf_shift (M : Nat) (lo : Int) (mode : Nat) (neg : Bool) (mag : Nat) (place e : Int) (u d : Nat) (hu : (u : Int) - d = place - (e - M)) :
    rungOf M lo mode neg (mag * 2 ^ place.toNat) (2 ^ (-place).toNat) e = (e - lo).toNat * 2 ^ M + rnd mode neg (mag * 2 ^ u) (2 ^ d) := by
  unfold rungOf
  congr 1
  refine rnd_eq _ _ _ _ _ _ (Nat.mul_pos (two_pow_pos' _) (two_pow_pos' _)) (two_pow_pos' _) ?_
  calc mag * 2 ^ place.toNat * 2 ^ ((M : Int) - e).toNat * 2 ^ d = mag * 2 ^ (place.toNat + ((M : Int) - e).toNat + d) := by rw [Nat.pow_add, Nat.pow_add]; ac_rfl
    _ = mag * 2 ^ (u + ((-place).toNat + (e - (M : Int)).toNat)) := by congr 2; omega
    _ = mag * 2 ^ u * (2 ^ (-place).toNat * 2 ^ (e - (M : Int)).toNat) := by rw [Nat.pow_add, Nat.pow_add]; ac_rfl

/-- the least exponent of a normal number -/
def loOf (f : Ieee.Format) : Int := f.leastPlace + f.fractionBits

/-- THE MODEL's ROUNDING, SAID OF THE FRACTION -/
theorem nearest_eq (f : Ieee.Format) (neg : Bool) (mag : Nat) (place : Int) (h : mag ≠ 0) :
    f.nearest neg mag place = f.word neg (min (rungOf f.fractionBits (loOf f) 0 neg (mag * 2 ^ place.toNat) (2 ^ (-place).toNat) (max (place + mag.log2) (loOf f))) f.infRung) := by
  unfold Ieee.Format.nearest
  rw [if_neg h]
  simp only [cut_eq, Nat.shiftLeft_eq]
  generalize hl : max (place + (mag.log2 : Int) - f.fractionBits) f.leastPlace = last
  have he : max (place + (mag.log2 : Int)) (loOf f) = last + f.fractionBits := by unfold loOf; omega
  rw [he, rungOf_shift _ _ _ _ _ _ _ (place - last).toNat (last - place).toNat (by omega)]
  have : (last + (f.fractionBits : Int) - loOf f).toNat = (last - f.leastPlace).toNat := by unfold loOf; omega
  rw [this]
  rfl

/-- a fraction's rung by its sticky floor: place is where the floor's last bit stands -/
theorem rungOf_st (M : Nat) (lo : Int) (mode : Nat) (neg : Bool) (n d : Nat) (place e : Int) (hd : 0 < d) (h : place + 2 ≤ e - M) :
    rungOf M lo mode neg (st n d * 2 ^ place.toNat) (2 ^ (-place).toNat) e = rungOf M lo mode neg (n * 2 ^ place.toNat) (d * 2 ^ (-place).toNat) e := by
  have h1 := rungOf_shift M lo mode neg (st n d) place e 0 (e - M - place).toNat (by omega)
  rw [h1, Nat.pow_zero, Nat.mul_one, rnd_st _ _ _ _ _ hd (by omega)]
  unfold rungOf
  congr 1
  refine rnd_eq _ _ _ _ _ _ (Nat.mul_pos hd (two_pow_pos' _)) (Nat.mul_pos (Nat.mul_pos hd (two_pow_pos' _)) (two_pow_pos' _)) ?_
  calc n * (d * 2 ^ (-place).toNat * 2 ^ (e - (M : Int)).toNat) = n * d * 2 ^ ((-place).toNat + (e - (M : Int)).toNat) := by rw [Nat.pow_add]; ac_rfl
    _ = n * d * 2 ^ (place.toNat + ((M : Int) - e).toNat + (e - M - place).toNat) := by congr 2; omega
    _ = n * 2 ^ place.toNat * 2 ^ ((M : Int) - e).toNat * (d * 2 ^ (e - M - place).toNat) := by rw [Nat.pow_add, Nat.pow_add]; ac_rfl

end Go.Proofs.Ygcoaf.M
