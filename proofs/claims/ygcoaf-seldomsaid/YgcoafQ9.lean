/-
  SELDOM: the plain end: the two neighbours' sum is twice the tie.
-/
import Derived.Test.YgcoafQ7
namespace Go.Proofs.Ygcoaf
open Go.RowKit Go.Proofs.Ygcoaf.M

theorem tie_fr {E M man n : Nat} {q e : Int} (t : Tie E M man n q e) : dA man q * 2 ^ ((M : Int) - e).toNat * 2 = (2 * n + 1) * (dB q * 2 ^ (e - M).toNat) := by
  have k := t.eq
  obtain ⟨cz, hcz⟩ : ∃ cz : Int, cz = e - M - 1 := ⟨_, rfl⟩
  rw [← hcz] at k
  apply Nat.eq_of_mul_eq_mul_right (Nat.two_pow_pos cz.toNat)
  calc dA man q * 2 ^ ((M : Int) - e).toNat * 2 * 2 ^ cz.toNat = dA man q * 2 ^ (((M : Int) - e).toNat + 1 + cz.toNat) := by rw [Nat.pow_add, Nat.pow_succ]; ac_rfl
    _ = dA man q * 2 ^ ((-cz).toNat + (e - M).toNat) := by congr 2; omega
    _ = dA man q * 2 ^ (-cz).toNat * 2 ^ (e - M).toNat := by rw [Nat.pow_add]; ac_rfl
    _ = (2 * n + 1) * 2 ^ cz.toNat * dB q * 2 ^ (e - M).toNat := by rw [k]
    _ = _ := by ac_rfl

/-- a fraction that is n at the exponent e -/
def IsAt (M n : Nat) (e : Int) (Y1 Y2 : Nat) : Prop := Y1 * 2 ^ ((M : Int) - e).toNat = n * 2 ^ (e - M).toNat * Y2

theorem tie_sum {E M man n : Nat} {q e : Int} (t : Tie E M man n q e) {X1 X2 Y1 Y2 : Nat} (hx : IsAt M n e X1 X2) (hy : IsAt M (n + 1) e Y1 Y2) : (X1 * Y2 + Y1 * X2) * (1 * dB q) = 2 * dA man q * (X2 * Y2) := by
  have k := tie_fr t
  unfold IsAt at hx hy
  have pa := Nat.two_pow_pos ((M : Int) - e).toNat
  generalize 2 ^ ((M : Int) - e).toNat = a at *
  generalize 2 ^ (e - M).toNat = b at *
  generalize dA man q = A at *
  generalize dB q = B at *
  apply Nat.eq_of_mul_eq_mul_right pa
  calc (X1 * Y2 + Y1 * X2) * (1 * B) * a = ((X1 * a) * Y2 + (Y1 * a) * X2) * B := by grind
    _ = (n * b * X2 * Y2 + (n + 1) * b * Y2 * X2) * B := by rw [hx, hy]
    _ = (2 * n + 1) * (B * b) * (X2 * Y2) := by grind
    _ = A * a * 2 * (X2 * Y2) := by rw [k]
    _ = _ := by grind

theorem tie_rung {E M man n : Nat} {q e : Int} (t : Tie E M man n q e) : Rung E M n e := ⟨t.lo, t.top, t.norm, t.fin⟩

theorem inf_eq {E M : Nat} (h1 : 2 ≤ E) : infR E M = (2 ^ E - 3) * 2 ^ M + 2 ^ (M + 1) := by
  have h22 : 2 ^ 2 ≤ 2 ^ E := two_pow_le h1
  unfold infR
  rw [Nat.pow_succ, Nat.mul_comm (2 ^ M) 2, ← Nat.add_mul]
  congr 1; omega

/-- the rung above, where it is finite -/
theorem next_fin {E M man n : Nat} {q e : Int} (t : Tie E M man n q e) (hf : tieR E M n e + 1 < infR E M) : ∃ n' e', Rung E M n' e' ∧ tieR E M n' e' = tieR E M n e + 1 ∧ ∀ Y1 Y2, IsAt M n' e' Y1 Y2 → IsAt M (n + 1) e Y1 Y2 := by
  have hM2 : 2 ^ (M + 1) = 2 * 2 ^ M := by rw [Nat.pow_succ, Nat.mul_comm]
  have pM := Nat.two_pow_pos M
  have htop := t.top
  by_cases c : n + 1 < 2 ^ (M + 1)
  · have e1 : tieR E M (n + 1) e = tieR E M n e + 1 := by unfold tieR; omega
    refine ⟨n + 1, e, ⟨t.lo, c, ?_, by rw [e1]; exact hf⟩, e1, fun _ _ h => h⟩
    rcases t.norm with g | g
    · exact Or.inl (by omega)
    · exact Or.inr g
  · have hn : n + 1 = 2 ^ (M + 1) := by omega
    have lo9 := t.lo
    have e1 : tieR E M (2 ^ M) (e + 1) = tieR E M n e + 1 := by
      unfold tieR
      rw [show (e + 1 - lo E).toNat = (e - lo E).toNat + 1 by omega, Nat.succ_mul]; omega
    refine ⟨2 ^ M, e + 1, ⟨by omega, by omega, Or.inl (Nat.le_refl _), by rw [e1]; exact hf⟩, e1, fun Y1 Y2 h => ?_⟩
    unfold IsAt at h ⊢
    rw [hn]
    apply Nat.eq_of_mul_eq_mul_right (Nat.two_pow_pos (e + 1 - M).toNat)
    calc Y1 * 2 ^ ((M : Int) - e).toNat * 2 ^ (e + 1 - M).toNat = Y1 * 2 ^ (((M : Int) - e).toNat + (e + 1 - M).toNat) := by rw [Nat.pow_add]; ac_rfl
      _ = Y1 * 2 ^ (((M : Int) - (e + 1)).toNat + (1 + (e - M).toNat)) := by congr 2; omega
      _ = Y1 * 2 ^ ((M : Int) - (e + 1)).toNat * (2 * 2 ^ (e - M).toNat) := by rw [Nat.pow_add, Nat.pow_add, Nat.pow_one]; ac_rfl
      _ = 2 ^ M * 2 ^ (e + 1 - M).toNat * Y2 * (2 * 2 ^ (e - M).toNat) := by rw [h]
      _ = _ := by rw [hM2]; ac_rfl

/-- the rung above, where it is infinity: two to the bias and one -/
theorem next_inf {E M man n : Nat} {q e : Int} (h1 : 2 ≤ E) (t : Tie E M man n q e) (he : e ≤ biasN E) (hf : ¬ tieR E M n e + 1 < infR E M) : tieR E M n e + 1 = infR E M ∧ IsAt M (n + 1) e (2 ^ (biasN E + 1).toNat) (2 ^ (-(biasN E + 1)).toNat) := by
  have hfin := t.fin
  have hM2 : 2 ^ (M + 1) = 2 * 2 ^ M := by rw [Nat.pow_succ, Nat.mul_comm]
  have pM := Nat.two_pow_pos M
  have htop := t.top
  have hbt := bias_two h1
  have hlo : lo E = 1 - biasN E := rfl
  have hc := cast_two_pow E
  have h22 : 2 ^ 2 ≤ 2 ^ E := two_pow_le h1
  have hie := inf_eq (M := M) h1
  unfold tieR at hf ⊢
  have hr : (e - lo E).toNat * 2 ^ M + n + 1 = infR E M := by omega
  have hee : e = biasN E := by
    rcases Int.lt_or_le e (biasN E) with c | c
    · exfalso
      have k : (e - lo E).toNat * 2 ^ M ≤ (2 ^ E - 4) * 2 ^ M := Nat.mul_le_mul_right _ (by omega)
      have k2 : (2 ^ E - 3) * 2 ^ M = (2 ^ E - 4) * 2 ^ M + 2 ^ M := by rw [← Nat.succ_mul]; congr 1; omega
      omega
    · omega
  have hn : n + 1 = 2 ^ (M + 1) := by
    have : (e - lo E).toNat = 2 ^ E - 3 := by omega
    rw [this] at hr
    omega
  refine ⟨hr, ?_⟩
  unfold IsAt
  rw [hn, hee, ← Nat.pow_add, ← Nat.pow_add, ← Nat.pow_add]
  congr 1
  have hbp : 1 ≤ biasN E := by omega
  omega

theorem fin_of {E M x : Nat} (h1 : 2 ≤ E) (hx : x ≤ infR E M) : decide (eF E M x = 2 ^ E - 1) = decide (x = infR E M) := by
  have pM := Nat.two_pow_pos M
  have h22 : 2 ^ 2 ≤ 2 ^ E := two_pow_le h1
  rw [decide_eq_decide]
  unfold eF
  have hd : x / 2 ^ M ≤ 2 ^ E - 1 := by
    have := Nat.div_le_div_right (c := 2 ^ M) hx
    unfold infR at this
    rwa [Nat.mul_div_cancel _ pM] at this
  rw [Nat.mod_eq_of_lt (by omega)]
  constructor
  · intro h
    have := Nat.div_mul_le_self x (2 ^ M)
    rw [h] at this
    unfold infR at hx ⊢
    omega
  · intro h
    rw [h]; unfold infR; exact Nat.mul_div_cancel _ pM
end Go.Proofs.Ygcoaf
