/-
  PLAIN LAWS, the thirteenth: addition and subtraction.
-/
import Derived.Test.YgcoafM12
namespace Go.Proofs.Ygcoaf
open Go.Proofs.Ygcoaf.M

theorem sameN_zero (a b : Int) : SameN 0 a 0 b := fun c _ _ => by rw [Nat.zero_mul, Nat.zero_mul]

theorem sumV_left (E M : Nat) (na nb : Bool) (B : Nat) (eb : Int) (h : B ≠ 0) : sumV E M na 0 eb nb B eb = (Ieee.Format.mk E M).nearest nb B eb := by
  unfold sumV sumAt outAt
  rw [Int.min_self, show (eb - eb).toNat = 0 by omega, signedI, signedI]
  have e : (if na = true then (-1 : Int) else 1) * ((0 * 2 ^ 0 : Nat) : Int) + (if nb = true then (-1 : Int) else 1) * ((B * 2 ^ 0 : Nat) : Int) = (if nb = true then (-1 : Int) else 1) * (B : Int) := by simp
  rw [e]
  cases nb <;> simp only [Bool.false_eq_true, if_false, if_true]
  · rw [if_neg (by omega), decide_eq_false (by omega), show (1 * (B : Int)).natAbs = B by omega]
  · rw [if_neg (by omega), decide_eq_true (by omega), show (-1 * (B : Int)).natAbs = B by omega]

/-- two numbers: what the model's sum comes to -/
theorem sum_num (E M : Nat) (s t : Bool) (m n : Nat) (i j : Int) :
    outV E M (((Ieee.Datum.number s m i).sum (Ieee.Datum.number t n j)).map (Ieee.Format.mk E M).write) = if m = 0 ∧ n = 0 then sgn E M (s && t) else sumV E M s m i t n j := by
  show outV E M (some _) = _
  rw [outV_near]
  by_cases hz : m = 0 ∧ n = 0
  · rw [if_pos hz, hz.1, hz.2]
    have e : Ieee.signed s 0 (i - min i j).toNat + Ieee.signed t 0 (j - min i j).toNat = 0 := by
      rw [signedI, signedI]; simp
    rw [e, if_pos rfl]
    exact nearest_zero _ _ _ _
  · rw [if_neg hz]
    unfold sumV outAt sumAt
    generalize hT : Ieee.signed s m (i - min i j).toNat + Ieee.signed t n (j - min i j).toNat = T
    by_cases h0 : T = 0
    · rw [if_pos h0, if_pos h0, h0]
      have hst : (s && t) = false := by
        rw [h0, signedI, signedI] at hT
        have p1 := Nat.two_pow_pos (i - min i j).toNat
        have p2 := Nat.two_pow_pos (j - min i j).toNat
        have q1 : m * 2 ^ (i - min i j).toNat = 0 ↔ m = 0 := by rw [Nat.mul_eq_zero]; omega
        have q2 : n * 2 ^ (j - min i j).toNat = 0 ↔ n = 0 := by rw [Nat.mul_eq_zero]; omega
        generalize m * 2 ^ (i - min i j).toNat = P at *
        generalize n * 2 ^ (j - min i j).toNat = Q at *
        cases s <;> cases t <;> simp at *
        omega
      rw [hst]
      refine (nearest_zero _ _ _ _).trans ?_
      rfl
    · rw [if_neg h0, if_neg h0]

/-- ADDITION -/
theorem sum_law (E M : Nat) (na : Bool) (ca : Nat) (ea : Int) (ma : Nat) (nb : Bool) (cb : Nat) (eb : Int) (mb : Nat) (x y : Ieee.Datum)
    (hx : (ca = 4 ∧ ∃ s t, x = .nan s t) ∨ (ca = 3 ∧ x = .infinity na) ∨ (ca ≠ 3 ∧ ca ≠ 4 ∧ ∃ m i, x = .number na m i ∧ (m = 0 ↔ ca = 0) ∧ SameN m i ma ea))
    (hy : (cb = 4 ∧ ∃ s t, y = .nan s t) ∨ (cb = 3 ∧ y = .infinity nb) ∨ (cb ≠ 3 ∧ cb ≠ 4 ∧ ∃ m i, y = .number nb m i ∧ (m = 0 ↔ cb = 0) ∧ SameN m i mb eb)) :
    outV E M ((x.sum y).map (Ieee.Format.mk E M).write) = addC E M na ca ea ma nb cb eb mb := by
  unfold addC
  rcases hx with ⟨a1, s, t, rfl⟩ | ⟨a1, rfl⟩ | ⟨a1, a2, m, i, rfl, a3, a4⟩
  · rw [if_pos (Or.inl a1)]; rfl
  · rcases hy with ⟨b1, s', t', rfl⟩ | ⟨b1, rfl⟩ | ⟨b1, b2, n, j, rfl, b3, b4⟩
    · rw [if_pos (Or.inr b1)]; rfl
    · rw [if_neg (by omega)]
      simp only [Ieee.Datum.sum]
      by_cases h : na = nb
      · rw [if_pos h, if_neg (fun c => c.2.2 h), if_pos a1]
        exact outV_inf E M _
      · rw [if_neg h, if_pos ⟨a1, b1, h⟩]; rfl
    · rw [if_neg (by omega), if_neg (by omega), if_pos a1]
      exact outV_inf E M _
  · rcases hy with ⟨b1, s', t', rfl⟩ | ⟨b1, rfl⟩ | ⟨b1, b2, n, j, rfl, b3, b4⟩
    · rw [if_pos (Or.inr b1)]; rfl
    · rw [if_neg (by omega), if_neg (by omega), if_neg a1, if_pos b1]
      exact outV_inf E M _
    · rw [if_neg (by omega), if_neg (by omega), if_neg a1, if_neg b1, sum_num]
      unfold finV
      by_cases c1 : ca = 0
      · have hm := a3.2 c1
        rw [if_pos c1]
        by_cases c2 : cb = 0
        · rw [if_pos c2, if_pos ⟨hm, b3.2 c2⟩]
        · have hn : n ≠ 0 := fun h => c2 (b3.1 h)
          rw [if_neg c2, if_neg (fun h => hn h.2), hm, sumV_same E M na 0 i nb n j 0 j n j (sameN_zero _ _) (fun _ _ _ => rfl), sumV_left E M na nb n j hn]
          exact nearest_same E M nb n j mb eb (min j eb) (by omega) (by omega) (b4 _ (by omega) (by omega))
      · have hm : m ≠ 0 := fun h => c1 (a3.1 h)
        rw [if_neg c1, if_neg (fun h => hm h.1)]
        by_cases c2 : cb = 0
        · rw [if_pos c2, b3.2 c2, sumV_comm, sumV_same E M nb 0 j na m i 0 i m i (sameN_zero _ _) (fun _ _ _ => rfl), sumV_left E M nb na m i hm]
          exact nearest_same E M na m i ma ea (min i ea) (by omega) (by omega) (a4 _ (by omega) (by omega))
        · rw [if_neg c2]
          exact sumV_same E M na m i nb n j ma ea mb eb a4 b4

theorem add_law (E M a b : Nat) (hE : 2 ≤ E) : outV E M ((Ieee.Format.mk E M).add a b) = addU E M a b :=
  sum_law E M _ _ _ _ _ _ _ _ _ _ (view E M a hE) (view E M b hE)

theorem xor_sign (E M b : Nat) (h : b < 2 ^ (E + M + 1)) : sF E M (b ^^^ 2 ^ (E + M)) = !(sF E M b) := by
  have hp := Nat.two_pow_pos (E + M)
  rw [Nat.pow_succ] at h
  have q : b / 2 ^ (E + M) < 2 := (Nat.div_lt_iff_lt_mul hp).2 (by omega)
  have e : (b ^^^ 2 ^ (E + M)) / 2 ^ (E + M) = (b / 2 ^ (E + M)) ^^^ 1 := by rw [Nat.xor_div_two_pow, Nat.div_self hp]
  unfold sF
  rw [e]
  generalize b / 2 ^ (E + M) = k at *
  rcases (show k = 0 ∨ k = 1 by omega) with rfl | rfl <;> rfl

theorem read_opp (E M b : Nat) (h : b < 2 ^ (E + M + 1)) : (Ieee.Format.mk E M).read (b ^^^ 2 ^ (E + M)) = ((Ieee.Format.mk E M).read b).opposite := by
  rw [read_eq, read_eq, (xor_top (E + M) b h).1, xor_sign E M b h]
  by_cases c1 : b % 2 ^ (E + M) < 2 ^ M
  · rw [if_pos c1, if_pos c1]; rfl
  · rw [if_neg c1, if_neg c1]
    by_cases c2 : b % 2 ^ (E + M) < infR E M
    · rw [if_pos c2, if_pos c2]; rfl
    · rw [if_neg c2, if_neg c2]
      by_cases c3 : b % 2 ^ (E + M) = infR E M
      · rw [if_pos c3, if_pos c3]; rfl
      · rw [if_neg c3, if_neg c3]; rfl

theorem sub_law (E M a b : Nat) (hE : 2 ≤ E) (h : b < 2 ^ (E + M + 1)) : outV E M ((Ieee.Format.mk E M).sub a b) = subU E M a b := by
  unfold subU
  rw [← add_law E M _ _ hE]
  unfold Ieee.Format.sub Ieee.Format.add
  rw [read_opp E M b h]
end Go.Proofs.Ygcoaf
