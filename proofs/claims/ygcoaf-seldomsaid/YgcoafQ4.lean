/-
  SELDOM: the two patterns on either side of a tie.
-/
import Derived.Test.YgcoafQ3
namespace Go.Proofs.Ygcoaf
open Go.RowKit Go.Proofs.Ygcoaf.M

theorem rnd_down (n : Nat) : rnd 4 false (2 * n + 1) 2 = n := by
  unfold rnd ups
  simp only [show ¬ ((4 : Nat) = 1) by decide, show ¬ ((4 : Nat) = 2) by decide, show ¬ ((4 : Nat) = 3) by decide, if_false, if_true, Bool.and_false, Bool.toNat_false]
  omega
theorem rnd_up (n : Nat) : rnd 3 false (2 * n + 1) 2 = n + 1 := by
  have h : (2 * n + 1) % 2 = 1 := by omega
  have h2 : (2 * n + 1) / 2 = n := by omega
  unfold rnd ups
  rw [h, h2]
  rfl

/-- the rung below a tie -/
def tieR (E M n : Nat) (e : Int) : Nat := (e - lo E).toNat * 2 ^ M + n

theorem tie_rnd {E M man n : Nat} {q e : Int} (h1 : 2 ≤ E) (m0 : man ≠ 0) (t : Tie E M man n q e) :
    rfV E M 4 false (dA man q) (dB q) = tieR E M n e ∧ rfV E M 3 false (dA man q) (dB q) = tieR E M n e + 1 ∧ e ≤ biasN E := by
  have hA := dA_ne m0 q
  have hB := dB_ne q
  have hbt := bias_two h1
  have hlo : lo E = 1 - biasN E := rfl
  have hc := cast_two_pow E
  have h22 : 2 ^ 2 ≤ 2 ^ E := two_pow_le h1
  have hM2 : 2 ^ (M + 1) = 2 * 2 ^ M := by rw [Nat.pow_succ, Nat.mul_comm]
  have pM := Nat.two_pow_pos M
  have hfin := t.fin
  have htop := t.top
  have heb : e ≤ biasN E := by
    rcases t.norm with g | g
    · rcases Int.lt_or_le (biasN E) e with c | c
      · exfalso
        have k : (2 ^ E - 2) * 2 ^ M ≤ (e - lo E).toNat * 2 ^ M := Nat.mul_le_mul_right _ (by omega)
        have k2 : infR E M = (2 ^ E - 2) * 2 ^ M + 2 ^ M := by
          unfold infR
          rw [← Nat.succ_mul]; congr 1; omega
        omega
      · exact c
    · omega
  have hlog : rlog (dA man q) (dB q) = (e - M - 1) + ((2 * n + 1).log2 : Int) := by
    refine IsLog.unique ?_ (rlog_is _ _ hA hB) (isLog_mag (2 * n + 1) (e - M - 1) (by omega))
    exact t.eq
  have heA : eAt E (dA man q) (dB q) = e := by
    unfold eAt
    rw [hlog]
    rcases t.norm with g | g
    · have : (2 * n + 1).log2 = M + 1 := by
        rw [Nat.log2_eq_iff (by omega)]
        exact ⟨by omega, by rw [Nat.pow_succ]; omega⟩
      have := t.lo
      omega
    · by_cases g2 : 2 ^ M ≤ n
      · have : (2 * n + 1).log2 = M + 1 := by
          rw [Nat.log2_eq_iff (by omega)]
          exact ⟨by omega, by rw [Nat.pow_succ]; omega⟩
        omega
      · have : (2 * n + 1).log2 < M + 1 := (Nat.log2_lt (by omega)).2 (by omega)
        omega
  have hfr : dA man q * 2 ^ ((M : Int) - e).toNat * 2 = (2 * n + 1) * (dB q * 2 ^ (e - M).toNat) := by
    have k := t.eq
    obtain ⟨cz, hcz⟩ : ∃ cz : Int, cz = e - M - 1 := ⟨_, rfl⟩
    rw [← hcz] at k
    apply Nat.eq_of_mul_eq_mul_right (Nat.two_pow_pos cz.toNat)
    calc dA man q * 2 ^ ((M : Int) - e).toNat * 2 * 2 ^ cz.toNat = dA man q * 2 ^ (((M : Int) - e).toNat + 1 + cz.toNat) := by rw [Nat.pow_add, Nat.pow_succ]; ac_rfl
      _ = dA man q * 2 ^ ((-cz).toNat + (e - M).toNat) := by congr 2; omega
      _ = dA man q * 2 ^ (-cz).toNat * 2 ^ (e - M).toNat := by rw [Nat.pow_add]; ac_rfl
      _ = (2 * n + 1) * 2 ^ cz.toNat * dB q * 2 ^ (e - M).toNat := by rw [k]
      _ = _ := by ac_rfl
  have hrg : ∀ mode, rungOf M (lo E) mode false (dA man q) (dB q) e = (e - lo E).toNat * 2 ^ M + rnd mode false (2 * n + 1) 2 := fun mode => by
    unfold rungOf
    rw [rnd_eq mode false _ _ (2 * n + 1) 2 (Nat.mul_pos (Nat.pos_of_ne_zero hB) (Nat.two_pow_pos _)) (by decide) hfr]
  have hns : ¬ biasN E < e := by omega
  refine ⟨?_, ?_, heb⟩
  · unfold rfV
    rw [if_neg hA, heA, if_neg hns, hrg, rnd_down]
    unfold packV tieR
    rw [if_neg (by omega)]
    simp [sgn]
  · unfold rfV
    rw [if_neg hA, heA, if_neg hns, hrg, rnd_up]
    unfold packV tieR
    by_cases c : infR E M ≤ (e - lo E).toNat * 2 ^ M + (n + 1)
    · rw [if_pos c]
      unfold ovf
      simp [sgn]
      omega
    · rw [if_neg c]
      simp [sgn]
      omega
end Go.Proofs.Ygcoaf
