/-
  SELDOM: where rounding to nearest changes there is a midpoint.
-/
import Derived.Test.YgcoafQ1
import Derived.Test.YgcoafL1
namespace Go.Proofs.Ygcoaf
open Go.RowKit Go.Proofs.Ygcoaf.M

theorem rnd0_up (num den : Nat) (hd : 0 < den) : 2 * num ≤ (2 * rnd 0 false num den + 1) * den := by
  have e := Nat.div_add_mod num den
  have l := Nat.mod_lt num hd
  unfold rnd ups
  simp only [show ¬ ((0 : Nat) = 1) by decide, show ¬ ((0 : Nat) = 2) by decide, show ¬ ((0 : Nat) = 3) by decide, show ¬ ((0 : Nat) = 4) by decide, if_false]
  generalize num / den = q at *
  generalize num % den = m at *
  rw [← e]
  by_cases c1 : den < 2 * m
  · simp only [c1, decide_true, Bool.true_or, Bool.toNat_true]
    have : (2 * (q + 1) + 1) * den = 2 * (den * q) + 2 * den + den := by grind
    omega
  · have : (2 * q + 1) * den ≤ (2 * (q + (decide (den < 2 * m) || den == 2 * m && q % 2 == 1).toNat) + 1) * den := Nat.mul_le_mul_right _ (by omega)
    have h2 : (2 * q + 1) * den = 2 * (den * q) + den := by grind
    omega
theorem rnd0_low (num den : Nat) (hd : 0 < den) : 2 * (rnd 0 false num den * den) ≤ 2 * num + den := by
  have e := Nat.div_add_mod num den
  have l := Nat.mod_lt num hd
  unfold rnd ups
  simp only [show ¬ ((0 : Nat) = 1) by decide, show ¬ ((0 : Nat) = 2) by decide, show ¬ ((0 : Nat) = 3) by decide, show ¬ ((0 : Nat) = 4) by decide, if_false]
  generalize num / den = q at *
  generalize num % den = m at *
  rw [← e]
  by_cases c1 : den ≤ 2 * m
  · have h0 : (decide (den < 2 * m) || den == 2 * m && q % 2 == 1).toNat ≤ 1 := Bool.toNat_le _
    have : (q + (decide (den < 2 * m) || den == 2 * m && q % 2 == 1).toNat) * den ≤ (q + 1) * den := Nat.mul_le_mul_right _ (by omega)
    have h2 : (q + 1) * den = den * q + den := by grind
    omega
  · have a1 : decide (den < 2 * m) = false := by simp; omega
    have a2 : (den == 2 * m) = false := by rw [beq_eq_false_iff_ne]; omega
    rw [a1, a2]
    simp only [Bool.false_and, Bool.or_self, Bool.toNat_false, Nat.add_zero]
    have h2 : q * den = den * q := Nat.mul_comm _ _
    omega

theorem num_ge {A B : Nat} {r : Int} (h : IsLog A B r) (M t : Nat) (e : Int) (he : e + t ≤ r) : 2 ^ (M + t) * (B * 2 ^ (e - M).toNat) ≤ A * 2 ^ ((M : Int) - e).toNat := by
  obtain ⟨_, h2, _⟩ := h
  have k : 2 ^ (M + t) * (B * 2 ^ (e - M).toNat) * 2 ^ (-r).toNat ≤ A * 2 ^ ((M : Int) - e).toNat * 2 ^ (-r).toNat := by
    calc 2 ^ (M + t) * (B * 2 ^ (e - M).toNat) * 2 ^ (-r).toNat = B * 2 ^ (M + t + (e - M).toNat + (-r).toNat) := by rw [Nat.pow_add 2 (M + t + (e - M).toNat), Nat.pow_add 2 (M + t)]; ac_rfl
      _ ≤ B * 2 ^ (r.toNat + ((M : Int) - e).toNat) := Nat.mul_le_mul_left _ (two_pow_le (by omega))
      _ = B * 2 ^ r.toNat * 2 ^ ((M : Int) - e).toNat := by rw [Nat.pow_add]; ac_rfl
      _ ≤ A * 2 ^ (-r).toNat * 2 ^ ((M : Int) - e).toNat := Nat.mul_le_mul_right _ h2
      _ = _ := by ac_rfl
  exact Nat.le_of_mul_le_mul_right k (Nat.two_pow_pos _)
theorem num_lt {A B : Nat} {r : Int} (h : IsLog A B r) (M : Nat) (e : Int) (he : r + 1 ≤ e) : A * 2 ^ ((M : Int) - e).toNat < 2 ^ M * (B * 2 ^ (e - M).toNat) := by
  obtain ⟨hB, _, h3⟩ := h
  have k : A * 2 ^ ((M : Int) - e).toNat * 2 ^ (-(r + 1)).toNat < 2 ^ M * (B * 2 ^ (e - M).toNat) * 2 ^ (-(r + 1)).toNat := by
    calc A * 2 ^ ((M : Int) - e).toNat * 2 ^ (-(r + 1)).toNat = A * 2 ^ (-(r + 1)).toNat * 2 ^ ((M : Int) - e).toNat := by ac_rfl
      _ < B * 2 ^ (r + 1).toNat * 2 ^ ((M : Int) - e).toNat := Nat.mul_lt_mul_of_pos_right h3 (Nat.two_pow_pos _)
      _ = B * 2 ^ ((r + 1).toNat + ((M : Int) - e).toNat) := by rw [Nat.pow_add]; ac_rfl
      _ ≤ B * 2 ^ (M + (e - M).toNat + (-(r + 1)).toNat) := Nat.mul_le_mul_left _ (two_pow_le (by omega))
      _ = _ := by rw [Nat.pow_add 2 (M + (e - M).toNat), Nat.pow_add 2 M]; ac_rfl
  exact Nat.lt_of_mul_lt_mul_right k

/-- the inequality without the scale -/
theorem scale_le {N K a b j : Nat} (h : a + 1 + j = b) : 2 * (N * 2 ^ a) ≤ K * 2 ^ b ↔ N ≤ K * 2 ^ j := by
  have e1 : 2 * (N * 2 ^ a) = N * 2 ^ (a + 1) := by rw [Nat.pow_succ]; ac_rfl
  have e2 : K * 2 ^ b = K * 2 ^ j * 2 ^ (a + 1) := by rw [← h, Nat.pow_add]; ac_rfl
  rw [e1, e2]
  exact Nat.mul_le_mul_right_iff (Nat.two_pow_pos _)
theorem scale_ge {N K a b j : Nat} (h : a + 1 + j = b) : K * 2 ^ b ≤ 2 * (N * 2 ^ a) ↔ K * 2 ^ j ≤ N := by
  have e1 : 2 * (N * 2 ^ a) = N * 2 ^ (a + 1) := by rw [Nat.pow_succ]; ac_rfl
  have e2 : K * 2 ^ b = K * 2 ^ j * 2 ^ (a + 1) := by rw [← h, Nat.pow_add]; ac_rfl
  rw [e1, e2]
  exact Nat.mul_le_mul_right_iff (Nat.two_pow_pos _)

/-- a midpoint of the format, n and a half at the exponent e, in units of 2^ex -/
structure Mid (E M n : Nat) (e ex : Int) (j : Nat) : Prop where
  lo : lo E ≤ e
  top : n < 2 ^ (M + 1)
  norm : 2 ^ M ≤ n ∨ e = Go.Proofs.Ygcoaf.lo E
  fin : (e - Go.Proofs.Ygcoaf.lo E).toNat * 2 ^ M + n < infR E M
  hj : (j : Int) = e - M - 1 - ex

theorem mid_between {E M : Nat} (h1 : 2 ≤ E) (h2 : E ≤ 11) (h4 : M ≤ 52) {N U : Nat} {ex : Int} {b : Nat} (hb : b = 190) (hN : 2 ^ b ≤ N) (hU : N ≤ U) (h : patV E M N ex ≠ patV E M U ex) :
    ∃ n e j, Mid E M n e ex j ∧ 137 ≤ j ∧ N ≤ (2 * n + 1) * 2 ^ j ∧ (2 * n + 1) * 2 ^ j ≤ U := by
  have p1 := Nat.two_pow_pos b
  have pe := Nat.two_pow_pos ex.toNat
  have pB := Nat.two_pow_pos (-ex).toNat
  have hN0 : N * 2 ^ ex.toNat ≠ 0 := by have := Nat.mul_pos (show 0 < N by omega) pe; omega
  have hU0 : U * 2 ^ ex.toNat ≠ 0 := by have := Nat.mul_pos (show 0 < U by omega) pe; omega
  have hB0 : 2 ^ (-ex).toNat ≠ 0 := by omega
  have hcross : N * 2 ^ ex.toNat * 2 ^ (-ex).toNat ≤ U * 2 ^ ex.toNat * 2 ^ (-ex).toNat := Nat.mul_le_mul_right _ (Nat.mul_le_mul_right _ hU)
  have hmono := rg_mono E M hN0 hB0 hU0 hB0 hcross
  have hlm := rlog_mono hN0 hB0 hU0 hB0 hcross
  unfold patV at h
  rw [rfV_min h1 h2 hN0 hB0, rfV_min h1 h2 hU0 hB0] at h
  have hfin : rg E M (N * 2 ^ ex.toNat) (2 ^ (-ex).toNat) < infR E M := by omega
  have hlt : rg E M (N * 2 ^ ex.toNat) (2 ^ (-ex).toNat) < rg E M (U * 2 ^ ex.toNat) (2 ^ (-ex).toNat) := by omega
  have lN := rlog_is _ _ hN0 hB0
  have lU := rlog_is _ _ hU0 hB0
  have hrN : 190 + ex ≤ rlog (N * 2 ^ ex.toNat) (2 ^ (-ex).toNat) := by
    obtain ⟨_, _, g3⟩ := lN
    generalize rlog (N * 2 ^ ex.toNat) (2 ^ (-ex).toNat) = r at *
    have k : 2 ^ (b + ex.toNat + (-(r + 1)).toNat) < 2 ^ ((-ex).toNat + (r + 1).toNat) := by
      calc 2 ^ (b + ex.toNat + (-(r + 1)).toNat) = 2 ^ b * 2 ^ ex.toNat * 2 ^ (-(r + 1)).toNat := by rw [Nat.pow_add, Nat.pow_add]
        _ ≤ N * 2 ^ ex.toNat * 2 ^ (-(r + 1)).toNat := Nat.mul_le_mul_right _ (Nat.mul_le_mul_right _ hN)
        _ < _ := g3
        _ = _ := by rw [Nat.pow_add]
    have := (Nat.pow_lt_pow_iff_right (by decide)).1 k
    omega
  have topN := rnd_top M 0 false _ _ hN0 hB0 (max (rlog (N * 2 ^ ex.toNat) (2 ^ (-ex).toNat)) (lo E)) (by omega)
  have topU := rnd_top M 0 false _ _ hU0 hB0 (max (rlog (U * 2 ^ ex.toNat) (2 ^ (-ex).toNat)) (lo E)) (by omega)
  unfold rg rungOf at hfin hlt
  generalize hrn : rlog (N * 2 ^ ex.toNat) (2 ^ (-ex).toNat) = rN at *
  generalize hru : rlog (U * 2 ^ ex.toNat) (2 ^ (-ex).toNat) = rU at *
  obtain ⟨eN, heN⟩ : ∃ eN, eN = max rN (lo E) := ⟨_, rfl⟩
  obtain ⟨eU, heU⟩ : ∃ eU, eU = max rU (lo E) := ⟨_, rfl⟩
  rw [← heN] at topN hfin hlt
  rw [← heU] at topU hlt
  rw [show -((M : Int) - eN) = eN - M by omega] at topN
  rw [show -((M : Int) - eU) = eU - M by omega] at topU
  -- the two sides, at any exponent, without their scale
  have key : ∀ (e : Int) (K : Nat) (j : Nat), (j : Int) = e - M - 1 - ex → (2 * (N * 2 ^ ex.toNat * 2 ^ ((M : Int) - e).toNat) ≤ K * (2 ^ (-ex).toNat * 2 ^ (e - M).toNat) ↔ N ≤ K * 2 ^ j) ∧ (K * (2 ^ (-ex).toNat * 2 ^ (e - M).toNat) ≤ 2 * (U * 2 ^ ex.toNat * 2 ^ ((M : Int) - e).toNat) ↔ K * 2 ^ j ≤ U) := fun e K j hj => by
    have x1 : N * 2 ^ ex.toNat * 2 ^ ((M : Int) - e).toNat = N * 2 ^ (ex.toNat + ((M : Int) - e).toNat) := by rw [Nat.pow_add]; ac_rfl
    have x2 : U * 2 ^ ex.toNat * 2 ^ ((M : Int) - e).toNat = U * 2 ^ (ex.toNat + ((M : Int) - e).toNat) := by rw [Nat.pow_add]; ac_rfl
    rw [x1, x2, ← Nat.pow_add]
    exact ⟨scale_le (by omega), scale_ge (by omega)⟩
  have dpos : ∀ e : Int, 0 < 2 ^ (-ex).toNat * 2 ^ (e - M).toNat := fun e => Nat.mul_pos pB (Nat.two_pow_pos _)
  by_cases c : rnd 0 false (N * 2 ^ ex.toNat * 2 ^ ((M : Int) - eN).toNat) (2 ^ (-ex).toNat * 2 ^ (eN - M).toNat) < 2 ^ (M + 1)
  · obtain ⟨j, hj⟩ : ∃ j : Nat, (j : Int) = eN - M - 1 - ex := ⟨(eN - M - 1 - ex).toNat, by omega⟩
    refine ⟨_, eN, j, ⟨by omega, c, ?_, hfin, hj⟩, by omega, ?_, ?_⟩
    · by_cases d : eN = lo E
      · exact Or.inr d
      · left
        refine Nat.le_trans ?_ (Nat.le_add_right _ _)
        rw [Nat.le_div_iff_mul_le (dpos eN)]
        have := num_ge lN M 0 eN (by omega)
        simpa using this
    · exact (key eN _ j hj).1.1 (rnd0_up _ _ (dpos eN))
    · apply (key eN _ j hj).2.1
      rcases Int.lt_or_le eN eU with d | d
      · have g := num_ge lU M 1 eN (by omega)
        have g2 : (2 * rnd 0 false (N * 2 ^ ex.toNat * 2 ^ ((M : Int) - eN).toNat) (2 ^ (-ex).toNat * 2 ^ (eN - M).toNat) + 1) * (2 ^ (-ex).toNat * 2 ^ (eN - M).toNat) ≤ 2 * 2 ^ (M + 1) * (2 ^ (-ex).toNat * 2 ^ (eN - M).toNat) := Nat.mul_le_mul_right _ (by omega)
        rw [Nat.mul_assoc 2 (2 ^ (M + 1))] at g2
        omega
      · have hee : eU = eN := by omega
        rw [hee] at hlt
        have g := rnd0_low (U * 2 ^ ex.toNat * 2 ^ ((M : Int) - eN).toNat) (2 ^ (-ex).toNat * 2 ^ (eN - M).toNat) (dpos eN)
        generalize rnd 0 false (N * 2 ^ ex.toNat * 2 ^ ((M : Int) - eN).toNat) (2 ^ (-ex).toNat * 2 ^ (eN - M).toNat) = x at *
        generalize rnd 0 false (U * 2 ^ ex.toNat * 2 ^ ((M : Int) - eN).toNat) (2 ^ (-ex).toNat * 2 ^ (eN - M).toNat) = y at *
        have hxy : x + 1 ≤ y := by omega
        have g3 := Nat.mul_le_mul_right (2 ^ (-ex).toNat * 2 ^ (eN - M).toNat) hxy
        generalize 2 ^ (-ex).toNat * 2 ^ (eN - M).toNat = D at *
        have g4 : (2 * x + 1) * D = 2 * (x * D) + D := by grind
        have g5 : (x + 1) * D = x * D + D := by grind
        omega
  · have c2 : rnd 0 false (N * 2 ^ ex.toNat * 2 ^ ((M : Int) - eN).toNat) (2 ^ (-ex).toNat * 2 ^ (eN - M).toNat) = 2 ^ (M + 1) := by omega
    rw [c2] at hfin hlt
    have hM2 : 2 ^ (M + 1) = 2 * 2 ^ M := by rw [Nat.pow_succ, Nat.mul_comm]
    have pM := Nat.two_pow_pos M
    have hsum : (eN + 1 - lo E).toNat * 2 ^ M + 2 ^ M = (eN - lo E).toNat * 2 ^ M + 2 ^ (M + 1) := by
      rw [show (eN + 1 - lo E).toNat = (eN - lo E).toNat + 1 by omega, Nat.succ_mul, hM2]; omega
    obtain ⟨j, hj⟩ : ∃ j : Nat, (j : Int) = eN + 1 - M - 1 - ex := ⟨(eN + 1 - M - 1 - ex).toNat, by omega⟩
    refine ⟨2 ^ M, eN + 1, j, ⟨by omega, by omega, Or.inl (Nat.le_refl _), by rw [hsum]; exact hfin, hj⟩, by omega, ?_, ?_⟩
    · apply (key (eN + 1) _ j hj).1.1
      have g := num_lt lN M (eN + 1) (by omega)
      have g2 : (2 * 2 ^ M + 1) * (2 ^ (-ex).toNat * 2 ^ (eN + 1 - M).toNat) = 2 * (2 ^ M * (2 ^ (-ex).toNat * 2 ^ (eN + 1 - M).toNat)) + (2 ^ (-ex).toNat * 2 ^ (eN + 1 - M).toNat) := by grind
      omega
    · apply (key (eN + 1) _ j hj).2.1
      have hne : eU ≠ eN := by
        intro hee
        rw [hee] at hlt topU
        omega
      rcases Int.lt_or_le (eN + 1) eU with d | d
      · have g := num_ge lU M 1 (eN + 1) (by omega)
        have g2 : (2 * 2 ^ M + 1) * (2 ^ (-ex).toNat * 2 ^ (eN + 1 - M).toNat) ≤ 2 * 2 ^ (M + 1) * (2 ^ (-ex).toNat * 2 ^ (eN + 1 - M).toNat) := Nat.mul_le_mul_right _ (by omega)
        rw [Nat.mul_assoc 2 (2 ^ (M + 1))] at g2
        omega
      · have hee : eU = eN + 1 := by omega
        rw [hee] at hlt
        rw [← hsum] at hlt
        have g := rnd0_low (U * 2 ^ ex.toNat * 2 ^ ((M : Int) - (eN + 1)).toNat) (2 ^ (-ex).toNat * 2 ^ (eN + 1 - M).toNat) (dpos (eN + 1))
        generalize rnd 0 false (U * 2 ^ ex.toNat * 2 ^ ((M : Int) - (eN + 1)).toNat) (2 ^ (-ex).toNat * 2 ^ (eN + 1 - M).toNat) = y at *
        have hxy : 2 ^ M + 1 ≤ y := by omega
        have g3 := Nat.mul_le_mul_right (2 ^ (-ex).toNat * 2 ^ (eN + 1 - M).toNat) hxy
        generalize 2 ^ (-ex).toNat * 2 ^ (eN + 1 - M).toNat = D at *
        generalize 2 ^ M = x at *
        have g4 : (2 * x + 1) * D = 2 * (x * D) + D := by grind
        have g5 : (x + 1) * D = x * D + D := by grind
        omega
end Go.Proofs.Ygcoaf
