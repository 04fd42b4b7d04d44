/-
  PLAIN LAWS, the fourteenth: division.
-/
import Derived.Test.YgcoafM12
namespace Go.Proofs.Ygcoaf
open Go.Proofs.Ygcoaf.M

theorem mag_st (D n : Nat) (hn : 0 < n) : 2 * (D / n) + (D % n != 0).toNat = st (2 * D) n := by
  have e := Nat.div_add_mod D n
  have hlt := Nat.mod_lt D hn
  have e2 : 2 * D = n * (2 * (D / n)) + 2 * (D % n) := by rw [Nat.mul_left_comm]; omega
  have q : (2 * D) / n = 2 * (D / n) + 2 * (D % n) / n := by rw [e2, Nat.mul_add_div hn]
  have r : (2 * D) % n = 2 * (D % n) % n := by rw [e2, Nat.mul_add_mod]
  have hs : 2 * (D % n) / n < 2 := (Nat.div_lt_iff_lt_mul hn).2 (by omega)
  by_cases h : D % n = 0
  · have : (D % n != 0).toNat = 0 := by simp [h]
    rw [this, st_even _ _ (by rw [r, h]; simp), q, h]; simp
  · have h1 : (D % n != 0).toNat = 1 := by
      have : (D % n != 0) = true := by simp [h]
      rw [this]; rfl
    rw [h1]
    by_cases h2 : (2 * D) % n = 0
    · rw [st_even _ _ h2, q]
      have : 2 * (D % n) / n ≠ 0 := by
        intro hz
        rw [r] at h2
        have := Nat.div_add_mod (2 * (D % n)) n
        rw [hz, h2, Nat.mul_zero] at this
        omega
      generalize 2 * (D % n) / n = u at *
      generalize D / n = v at *
      clear e e2 r h2 q
      omega
    · rw [st_odd _ _ h2, q]
      generalize 2 * (D % n) / n = u at *
      generalize D / n = v at *
      clear e e2 r h2 q
      omega

theorem pow_big (k : Nat) {a b : Nat} (h : a ≤ b) : 2 ^ (a + k) ≤ 2 ^ (b + k) := two_pow_le (by omega)

/-- what the model's quotient of two numbers that are not zero is rounded to -/
theorem quot_rat (E M : Nat) (s : Bool) (m n : Nat) (i j : Int) (hm : m ≠ 0) (hn : n ≠ 0) :
    ∃ r : Int, IsLog (m * 2 ^ (M + 2 + n.log2 - m.log2) * 2 * 2 ^ (i - j - (M + 2 + n.log2 - m.log2 : Nat) - 1).toNat) (n * 2 ^ (-(i - j - (M + 2 + n.log2 - m.log2 : Nat) - 1)).toNat) r ∧
      (Ieee.Format.mk E M).nearest s (2 * (m <<< (M + 2 + n.log2 - m.log2) / n) + (m <<< (M + 2 + n.log2 - m.log2) % n != 0).toNat) (i - j - (M + 2 + n.log2 - m.log2 : Nat) - 1) =
      ratNear E M s (m * 2 ^ (M + 2 + n.log2 - m.log2) * 2 * 2 ^ (i - j - (M + 2 + n.log2 - m.log2 : Nat) - 1).toNat) (n * 2 ^ (-(i - j - (M + 2 + n.log2 - m.log2 : Nat) - 1)).toNat) r := by
  have hnp : 0 < n := Nat.pos_of_ne_zero hn
  rw [Nat.shiftLeft_eq, mag_st _ _ hnp, Nat.mul_comm 2]
  have a := Nat.log2_self_le hm
  have b := Nat.lt_log2_self (n := n)
  obtain ⟨k, hk⟩ : ∃ k, k = M + 2 + n.log2 - m.log2 := ⟨_, rfl⟩
  rw [← hk]
  have hD : 2 ^ (M + 2) * n ≤ m * 2 ^ k * 2 := by
    have h1 : 2 ^ (M + 2) * n ≤ 2 ^ (M + 2) * 2 ^ (n.log2 + 1) := Nat.mul_le_mul_left _ (Nat.le_of_lt b)
    have h2 : 2 ^ m.log2 * 2 ^ k * 2 ≤ m * 2 ^ k * 2 := Nat.mul_le_mul_right _ (Nat.mul_le_mul_right _ a)
    have h3 : 2 ^ (M + 2) * 2 ^ (n.log2 + 1) ≤ 2 ^ m.log2 * 2 ^ k * 2 := by
      rw [← Nat.pow_add, ← Nat.pow_add, ← Nat.pow_succ]
      exact two_pow_le (by omega)
    exact Nat.le_trans h1 (Nat.le_trans h3 h2)
  have hq : 2 ^ (M + 2) ≤ m * 2 ^ k * 2 / n := (Nat.le_div_iff_mul_le hnp).2 hD
  have hq0 : m * 2 ^ k * 2 / n ≠ 0 := by have := Nat.two_pow_pos (M + 2); omega
  exact ⟨_, isLog_frac _ n _ hnp hq0, nearest_st E M s _ n _ hnp hq0 (Or.inr ((Nat.le_log2 hq0).2 hq))⟩

theorem soft_rat (E M : Nat) (h4 : M ≤ 52) (s : Bool) (ma mb : Nat) (p : Int) (ha : 2 ^ M ≤ ma ∧ ma < 2 ^ (M + 1)) (hb : 2 ^ M ≤ mb ∧ mb < 2 ^ (M + 1)) :
    ∃ r : Int, IsLog (ma * 2 ^ (63 - M) * 9223372036854775808 * 2 ^ p.toNat) (mb * 2 ^ (63 - M) * 2 ^ (-p).toNat) r ∧
      (Ieee.Format.mk E M).nearest s (st (ma * 2 ^ (63 - M) * 9223372036854775808) (mb * 2 ^ (63 - M))) p = ratNear E M s (ma * 2 ^ (63 - M) * 9223372036854775808 * 2 ^ p.toNat) (mb * 2 ^ (63 - M) * 2 ^ (-p).toNat) r := by
  obtain ⟨t1, t2⟩ := tops63 h4 ha
  obtain ⟨t3, t4⟩ := tops63 h4 hb
  generalize ma * 2 ^ (63 - M) = X at *
  generalize mb * 2 ^ (63 - M) = Y at *
  have hq : 2 ^ 62 ≤ X * 9223372036854775808 / Y := (Nat.le_div_iff_mul_le (by omega)).2 (by omega)
  have hq0 : X * 9223372036854775808 / Y ≠ 0 := by have := Nat.two_pow_pos 62; omega
  exact ⟨_, isLog_frac _ Y p (by omega) hq0, nearest_st E M s _ Y p (by omega) hq0 (Or.inr (Nat.le_trans (by omega) ((Nat.le_log2 hq0).2 hq)))⟩

theorem cross (m n ma mb k u a1 a2 a3 a4 b1 b2 b3 b4 : Nat) (s1 : m * 2 ^ a1 = ma * 2 ^ a3) (s2 : n * 2 ^ a4 = mb * 2 ^ a2) (h : k + 1 + b1 + b2 + a3 + a4 = 63 + b3 + b4 + a1 + a2) :
    m * 2 ^ k * 2 * 2 ^ b1 * (mb * 2 ^ u * 2 ^ b2) = ma * 2 ^ u * 9223372036854775808 * 2 ^ b3 * (n * 2 ^ b4) := by
  refine Nat.eq_of_mul_eq_mul_right (Nat.two_pow_pos (a1 + a2 + a3 + a4)) ?_
  have hL : m * 2 ^ k * 2 * 2 ^ b1 * (mb * 2 ^ u * 2 ^ b2) * 2 ^ (a1 + a2 + a3 + a4) = (m * 2 ^ a1) * (mb * 2 ^ a2) * 2 ^ u * 2 ^ (k + 1 + b1 + b2 + a3 + a4) := by
    rw [Nat.pow_add 2 (a1 + a2 + a3) a4, Nat.pow_add 2 (a1 + a2) a3, Nat.pow_add 2 a1 a2, Nat.pow_add 2 _ a4, Nat.pow_add 2 _ a3, Nat.pow_add 2 _ b2, Nat.pow_add 2 _ b1, Nat.pow_succ 2 k]
    ac_rfl
  have hR : ma * 2 ^ u * 9223372036854775808 * 2 ^ b3 * (n * 2 ^ b4) * 2 ^ (a1 + a2 + a3 + a4) = (ma * 2 ^ a3) * (n * 2 ^ a4) * 2 ^ u * 2 ^ (63 + b3 + b4 + a1 + a2) := by
    rw [show (9223372036854775808 : Nat) = 2 ^ 63 by decide]
    generalize 63 = z
    rw [Nat.pow_add 2 (a1 + a2 + a3) a4, Nat.pow_add 2 (a1 + a2) a3, Nat.pow_add 2 a1 a2, Nat.pow_add 2 _ a2, Nat.pow_add 2 _ a1, Nat.pow_add 2 _ b4, Nat.pow_add 2 _ b3]
    ac_rfl
  rw [hL, hR, s1, s2, h]

/-- DIVISION -/
theorem div_law (E M a b : Nat) (hE : 2 ≤ E) (h4 : M ≤ 52) : outV E M ((Ieee.Format.mk E M).div a b) = divU E M a b := by
  have hx : ∀ s t : Bool, (s ^^ t) = !(s == t) := by decide
  unfold Ieee.Format.div divU divC
  rcases view E M a hE with ⟨a1, s, t, ra⟩ | ⟨a1, ra⟩ | ⟨a1, a2, m, i, ra, a3, a4⟩
  · rw [ra, if_pos (Or.inl a1)]; rfl
  · rcases view E M b hE with ⟨b1, s', t', rb⟩ | ⟨b1, rb⟩ | ⟨b1, b2, n, j, rb, b3, b4⟩
    · rw [ra, rb, if_pos (Or.inr b1)]; rfl
    · rw [ra, rb, if_neg (by omega), if_pos (by omega)]; rfl
    · rw [ra, rb, if_neg (by omega), if_neg (by omega), if_pos a1, ← hx]
      exact outV_inf E M _
  · rcases view E M b hE with ⟨b1, s', t', rb⟩ | ⟨b1, rb⟩ | ⟨b1, b2, n, j, rb, b3, b4⟩
    · rw [ra, rb, if_pos (Or.inr b1)]; rfl
    · rw [ra, rb, if_neg (by omega), if_neg (by omega), if_neg (by omega), if_neg (by omega), if_pos (by omega), ← hx]
      exact (outV_near E M _ _ _).trans (nearest_zero _ _ _ _)
    · rw [ra, rb, if_neg (by omega)]
      simp only [Ieee.Datum.quotient]
      by_cases hn : n = 0
      · rw [if_pos hn]
        by_cases hm : m = 0
        · rw [if_pos hm, if_pos (by omega)]; rfl
        · rw [if_neg hm, if_neg (by omega), if_neg a1, if_pos (b3.1 hn), ← hx]
          exact outV_inf E M _
      · have hb0 : uCls E M b ≠ 0 := fun h => hn (b3.2 h)
        rw [if_neg hn]
        refine (outV_near E M _ _ _).trans ?_
        by_cases hm : m = 0
        · have ha0 := a3.1 hm
          rw [if_neg (by omega), if_neg a1, if_neg hb0, if_pos (Or.inl ha0), ← hx, hm]
          have : 2 * (0 <<< (M + 2 + n.log2 - Nat.log2 0) / n) + (0 <<< (M + 2 + n.log2 - Nat.log2 0) % n != 0).toNat = 0 := by simp
          exact (congrArg (fun z => (Ieee.Format.mk E M).nearest _ z _) this).trans (nearest_zero _ _ _ _)
        · have ha0 : uCls E M a ≠ 0 := fun h => hm (a3.2 h)
          rw [if_neg (by omega), if_neg a1, if_neg hb0, if_neg (by omega), ← hx]
          obtain ⟨r1, l1, e1⟩ := quot_rat E M (uNeg E M a ^^ uNeg E M b) m n i j hm hn
          obtain ⟨r2, l2, e2⟩ := soft_rat E M h4 (uNeg E M a ^^ uNeg E M b) (uMan E M a) (uMan E M b) (uExp E M a - uExp E M b - 63) (uman_cls E M a ha0 a1 a2) (uman_cls E M b hb0 b1 b2)
          refine e1.trans (Eq.trans ?_ e2.symm)
          refine ratNear_congr E M _ _ _ _ _ _ _ ?_ l1 l2
          have s1 := a4 (min i (uExp E M a)) (by omega) (by omega)
          have s2 := b4 (min j (uExp E M b)) (by omega) (by omega)
          generalize uMan E M a = ma at *
          generalize uMan E M b = mb at *
          generalize uExp E M a = ea at *
          generalize uExp E M b = eb at *
          generalize M + 2 + n.log2 - m.log2 = k at *
          exact cross m n ma mb k (63 - M) _ _ _ _ _ _ _ _ s1 s2 (by omega)
end Go.Proofs.Ygcoaf
