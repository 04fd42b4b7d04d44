/-
  PLAIN LAWS of a short decimal read by one operation on floats.
-/
import Derived.Test.YgcoafX6
import Derived.Test.YgcoafM8
namespace Go.Proofs.Ygcoaf
open Go.RowKit Go.Proofs.Ygcoaf.M

/-- what the exact rounding gives to the nearest even is the nearest word -/
theorem rfV_near {E M : Nat} (h1 : 2 ≤ E) (h2 : E ≤ 11) (neg : Bool) (A B : Nat) (hA : A ≠ 0) (hB : B ≠ 0) : rfV E M 0 neg A B = ratNear E M neg A B (rlog A B) := by
  unfold rfV ratNear
  rw [if_neg hA]
  have ho : ovf E M 0 neg = infR E M + sgn E M neg := by unfold ovf; simp
  have he : max (rlog A B) (lo E) = eAt E A B := rfl
  rw [he]
  have hbd := biasN_bd h1 h2
  have hbt := bias_two h1
  have hlo : lo E = 1 - biasN E := rfl
  have hEc := cast_two_pow E
  by_cases c : biasN E < eAt E A B
  · rw [if_pos c, ho]
    congr 1
    rw [Nat.min_eq_right]
    have her : eAt E A B = rlog A B := by unfold eAt; omega
    obtain ⟨_, l2, _⟩ := rlog_is A B hA hB
    rw [her] at c ⊢
    generalize rlog A B = r at *
    have hfl : 2 ^ M ≤ A * 2 ^ ((M : Int) - r).toNat / (B * 2 ^ (r - M).toNat) := by
      rw [Nat.le_div_iff_mul_le (Nat.mul_pos (Nat.pos_of_ne_zero hB) (Nat.two_pow_pos _))]
      have k : 2 ^ M * (B * 2 ^ (r - (M : Int)).toNat) * 2 ^ (-r).toNat ≤ A * 2 ^ ((M : Int) - r).toNat * 2 ^ (-r).toNat := by
        calc 2 ^ M * (B * 2 ^ (r - (M : Int)).toNat) * 2 ^ (-r).toNat = B * 2 ^ (M + (r - (M : Int)).toNat + (-r).toNat) := by rw [Nat.pow_add, Nat.pow_add]; ac_rfl
          _ = B * 2 ^ (r.toNat + ((M : Int) - r).toNat) := by congr 2; omega
          _ = B * 2 ^ r.toNat * 2 ^ ((M : Int) - r).toNat := by rw [Nat.pow_add]; ac_rfl
          _ ≤ A * 2 ^ (-r).toNat * 2 ^ ((M : Int) - r).toNat := Nat.mul_le_mul_right _ l2
          _ = _ := by ac_rfl
      exact Nat.le_of_mul_le_mul_right k (Nat.two_pow_pos _)
    have hr := le_rnd 0 neg (A * 2 ^ ((M : Int) - r).toNat) (B * 2 ^ (r - M).toNat)
    have hx : 2 ^ E - 2 ≤ (r - lo E).toNat := by omega
    have hy : (2 ^ E - 2) * 2 ^ M ≤ (r - lo E).toNat * 2 ^ M := Nat.mul_le_mul_right _ hx
    have hz : infR E M = (2 ^ E - 2) * 2 ^ M + 2 ^ M := by
      unfold infR
      rw [← Nat.succ_mul]
      congr 1
      have : 2 ^ 2 ≤ 2 ^ E := two_pow_le h1
      omega
    unfold rungOf
    omega
  · rw [if_neg c]
    unfold packV
    by_cases d : infR E M ≤ rungOf M (lo E) 0 neg A B (eAt E A B)
    · rw [if_pos d, ho, Nat.min_eq_right d]
    · rw [if_neg d, Nat.min_eq_left (by omega)]

/-- a number that the format has, read back -/
theorem read_exact (E M : Nat) (h1 : 2 ≤ E) (hE : M < 2 ^ (E - 1)) (mag : Nat) (h0 : mag ≠ 0) (hm : mag < 2 ^ (M + 1)) :
    ∃ m i, (Ieee.Format.mk E M).read ((Ieee.Format.mk E M).nearest false mag 0) = .number false m i ∧ m ≠ 0 ∧ m * 2 ^ i.toNat = mag * 2 ^ (-i).toNat := by
  obtain ⟨e, he⟩ : ∃ e, e = mag.log2 := ⟨_, rfl⟩
  have l1 := Nat.log2_self_le h0
  have l2 := Nat.lt_log2_self (n := mag)
  rw [← he] at l1 l2
  have heM : e ≤ M := by
    have := (Nat.log2_lt h0).2 hm
    omega
  have hlo : lo E = 1 - biasN E := rfl
  have hb : biasN E = 2 ^ (E - 1) - 1 := rfl
  have hbt := bias_two h1
  have hEc := cast_two_pow E
  have hEc1 := cast_two_pow (E - 1)
  have hp1 := Nat.two_pow_pos (E - 1)
  have hp2 : 2 ^ 1 ≤ 2 ^ (E - 1) := two_pow_le (by omega)
  have hlo0 : lo E ≤ 0 := by omega
  have hmax : max ((0 : Int) + (e : Int)) (lo E) = (e : Int) := by rw [Int.zero_add]; exact Int.max_eq_left (by omega)
  obtain ⟨X, hX⟩ : ∃ X, X = mag * 2 ^ (M - e) := ⟨_, rfl⟩
  have hX1 : 2 ^ M ≤ X := by
    have := Nat.mul_le_mul_right (2 ^ (M - e)) l1
    rw [← Nat.pow_add, show e + (M - e) = M from by omega] at this
    omega
  have hX2 : X < 2 ^ (M + 1) := by
    have := Nat.mul_lt_mul_of_pos_right l2 (Nat.two_pow_pos (M - e))
    rw [← Nat.pow_add, show e + 1 + (M - e) = M + 1 from by omega] at this
    omega
  obtain ⟨d, hd⟩ : ∃ d, d = ((e : Int) - lo E).toNat := ⟨_, rfl⟩
  have hrung : rungOf M (lo E) 0 false (mag * 2 ^ (0 : Int).toNat) (2 ^ (-(0 : Int)).toNat) (e : Int) = d * 2 ^ M + X := by
    unfold rungOf
    rw [← hd]
    congr 1
    have e1 : ((M : Int) - (e : Int)).toNat = M - e := by omega
    have e2 : ((e : Int) - (M : Int)).toNat = 0 := by omega
    rw [e1, e2]
    simp only [Int.toNat_zero, Int.neg_zero, Nat.pow_zero, Nat.mul_one, ← hX]
    unfold rnd ups
    simp [Nat.mod_one]
  have hdb : d + 2 ≤ 2 ^ E - 1 := by omega
  have hlt : d * 2 ^ M + X < infR E M := by
    have a : (d + 2) * 2 ^ M ≤ (2 ^ E - 1) * 2 ^ M := Nat.mul_le_mul_right _ hdb
    rw [Nat.add_mul] at a
    rw [Nat.pow_succ] at hX2
    unfold infR
    omega
  have hn : (Ieee.Format.mk E M).nearest false mag 0 = d * 2 ^ M + X := by
    rw [nearest_rat E M false mag 0 h0, ← he]
    unfold ratNear
    rw [hmax, hrung, Nat.min_eq_left (by omega)]
    simp [sgn]
  rw [hn]
  have hlt2 := infR_lt E M
  have hxm : (d * 2 ^ M + X) % 2 ^ (E + M) = d * 2 ^ M + X := Nat.mod_eq_of_lt (by omega)
  have hs : sF E M (d * 2 ^ M + X) = false := by
    unfold sF
    rw [Nat.div_eq_of_lt (by omega)]; rfl
  have hpM := Nat.two_pow_pos M
  have hdiv : (d * 2 ^ M + X) / 2 ^ M = d + 1 := by
    rw [Nat.mul_comm, Nat.mul_add_div hpM]
    congr 1
    rw [Nat.pow_succ] at hX2
    exact Nat.div_eq_of_lt_le (by omega) (by omega)
  have hmod : (d * 2 ^ M + X) % 2 ^ M = X - 2 ^ M := by
    rw [Nat.mul_comm, Nat.mul_add_mod]
    rw [Nat.pow_succ] at hX2
    rw [Nat.mod_eq_sub_mod hX1]
    exact Nat.mod_eq_of_lt (by omega)
  rw [read_eq, hxm, hs, if_neg (by omega), if_pos hlt, hdiv, hmod, least_eq]
  refine ⟨_, _, rfl, by omega, ?_⟩
  have ei : (lo E - (M : Int) + ((d + 1 - 1 : Nat) : Int)) = (e : Int) - M := by omega
  rw [ei, show 2 ^ M + (X - 2 ^ M) = X from by omega]
  have e1 : ((e : Int) - (M : Int)).toNat = 0 := by omega
  have e2 : (-((e : Int) - (M : Int))).toNat = M - e := by omega
  rw [e1, e2, Nat.pow_zero, Nat.mul_one, hX]

/-- a float that is a whole number -/
structure Whole (E M a n : Nat) : Prop where
  out : ∃ m i, (Ieee.Format.mk E M).read a = .number false m i ∧ m * 2 ^ i.toNat = n * 2 ^ (-i).toNat ∧ (n ≠ 0 → m ≠ 0) ∧ (n = 0 → m = 0)

theorem pow_cross (m n A B : Nat) (i j : Int) (h1 : m * 2 ^ i.toNat = A * 2 ^ (-i).toNat) (h2 : n * 2 ^ j.toNat = B * 2 ^ (-j).toNat) : m * n * 2 ^ (i + j).toNat = A * B * 2 ^ (-(i + j)).toNat := by
  have k : m * n * 2 ^ (i + j).toNat * 2 ^ ((-i).toNat + (-j).toNat) = A * B * 2 ^ (-(i + j)).toNat * 2 ^ ((-i).toNat + (-j).toNat) := by
    calc m * n * 2 ^ (i + j).toNat * 2 ^ ((-i).toNat + (-j).toNat) = m * n * 2 ^ ((i + j).toNat + ((-i).toNat + (-j).toNat)) := by rw [Nat.pow_add 2 (i + j).toNat]; ac_rfl
      _ = m * n * 2 ^ (i.toNat + j.toNat + (-(i + j)).toNat) := by congr 2; omega
      _ = (m * 2 ^ i.toNat) * (n * 2 ^ j.toNat) * 2 ^ (-(i + j)).toNat := by rw [Nat.pow_add, Nat.pow_add]; ac_rfl
      _ = _ := by rw [h1, h2, Nat.pow_add]; ac_rfl
  exact Nat.eq_of_mul_eq_mul_right (Nat.two_pow_pos _) k

/-- the product of two whole floats is their product rounded -/
theorem whole_mul {E M a b A B : Nat} (h1 : 2 ≤ E) (h2 : E ≤ 11) (ha : Whole E M a A) (hb : Whole E M b B) (hB : B ≠ 0) : (Ieee.Format.mk E M).mul a b = some (rfV E M 0 false (A * B) 1) := by
  obtain ⟨m, i, r1, e1, z1, y1⟩ := ha.out
  obtain ⟨n, j, r2, e2, z2, y2⟩ := hb.out
  unfold Ieee.Format.mul
  rw [r1, r2]
  show some ((Ieee.Format.mk E M).nearest (false ^^ false) (m * n) (i + j)) = _
  rw [Bool.xor_false]
  congr 1
  by_cases hA : A = 0
  · rw [y1 hA, Nat.zero_mul, nearest_zero, hA, Nat.zero_mul]
    unfold rfV; rw [if_pos rfl]
  · have hAB : A * B ≠ 0 := by have := Nat.mul_pos (Nat.pos_of_ne_zero hA) (Nat.pos_of_ne_zero hB); omega
    have hmn : m * n ≠ 0 := by have := Nat.mul_pos (Nat.pos_of_ne_zero (z1 hA)) (Nat.pos_of_ne_zero (z2 hB)); omega
    rw [rfV_near h1 h2 false _ _ hAB (by decide), nearest_rat _ _ _ _ _ hmn]
    exact ratNear_congr _ _ _ _ _ _ _ _ _ (by rw [Nat.mul_one]; exact pow_cross m n A B i j e1 e2) (isLog_mag _ _ hmn) (rlog_is _ _ hAB (by decide))

theorem mag_st' (D n : Nat) (hn : 0 < n) : 2 * (D / n) + (D % n != 0).toNat = st (2 * D) n := by
  have e := Nat.div_add_mod D n
  have hlt := Nat.mod_lt D hn
  have e2 : 2 * D = n * (2 * (D / n)) + 2 * (D % n) := by rw [Nat.mul_left_comm]; omega
  have q : (2 * D) / n = 2 * (D / n) + 2 * (D % n) / n := by rw [e2, Nat.mul_add_div hn]
  have r : (2 * D) % n = 2 * (D % n) % n := by rw [e2, Nat.mul_add_mod]
  have hs : 2 * (D % n) / n < 2 := (Nat.div_lt_iff_lt_mul hn).2 (by omega)
  by_cases h : D % n = 0
  · have : (D % n != 0).toNat = 0 := by simp [h]
    rw [this, st_even _ _ (by rw [r, h]; simp), q, h]; simp
  · have h1 : (D % n != 0).toNat = 1 := by
      have : (D % n != 0) = true := by simp [h]
      rw [this]; rfl
    rw [h1]
    by_cases h2 : (2 * D) % n = 0
    · rw [st_even _ _ h2, q]
      have : 2 * (D % n) / n ≠ 0 := by
        intro hz
        rw [r] at h2
        have := Nat.div_add_mod (2 * (D % n)) n
        rw [hz, h2, Nat.mul_zero] at this
        omega
      generalize 2 * (D % n) / n = u at *
      generalize D / n = v at *
      clear e e2 r h2 q
      omega
    · rw [st_odd _ _ h2, q]
      generalize 2 * (D % n) / n = u at *
      generalize D / n = v at *
      clear e e2 r h2 q
      omega

/-- the quotient of two whole floats is the fraction rounded -/
theorem whole_div {E M a b A B : Nat} (h1 : 2 ≤ E) (h2 : E ≤ 11) (ha : Whole E M a A) (hb : Whole E M b B) (hB : B ≠ 0) : (Ieee.Format.mk E M).div a b = some (rfV E M 0 false A B) := by
  obtain ⟨m, i, r1, e1, z1, y1⟩ := ha.out
  obtain ⟨n, j, r2, e2, z2, y2⟩ := hb.out
  have hn := z2 hB
  have hnp : 0 < n := Nat.pos_of_ne_zero hn
  unfold Ieee.Format.div
  rw [r1, r2]
  unfold Ieee.Datum.quotient
  simp only [hn, if_false, Option.map_some, Bool.xor_false, Ieee.Format.write]
  congr 1
  rw [mag_st' _ _ hnp, Nat.shiftLeft_eq]
  by_cases hA : A = 0
  · rw [y1 hA, Nat.zero_mul, Nat.mul_zero]
    have : st 0 n = 0 := by rw [st_even _ _ (by simp)]; simp
    rw [this, nearest_zero, hA]
    unfold rfV; rw [if_pos rfl]
  · have hm := z1 hA
    obtain ⟨k, hk⟩ : ∃ k, k = M + 2 + n.log2 - m.log2 := ⟨_, rfl⟩
    rw [← hk]
    have a := Nat.log2_self_le hm
    have b := Nat.lt_log2_self (n := n)
    have hD : 2 ^ (M + 2) * n ≤ 2 * (m * 2 ^ k) := by
      have g1 : 2 ^ (M + 2) * n ≤ 2 ^ (M + 2) * 2 ^ (n.log2 + 1) := Nat.mul_le_mul_left _ (Nat.le_of_lt b)
      have g2 : 2 * (2 ^ m.log2 * 2 ^ k) ≤ 2 * (m * 2 ^ k) := Nat.mul_le_mul_left _ (Nat.mul_le_mul_right _ a)
      have g3 : 2 ^ (M + 2) * 2 ^ (n.log2 + 1) ≤ 2 * (2 ^ m.log2 * 2 ^ k) := by
        rw [← Nat.pow_add, ← Nat.pow_add, Nat.mul_comm 2, ← Nat.pow_succ]
        exact two_pow_le (by omega)
      exact Nat.le_trans g1 (Nat.le_trans g3 g2)
    have hq : 2 ^ (M + 2) ≤ 2 * (m * 2 ^ k) / n := (Nat.le_div_iff_mul_le hnp).2 hD
    have hq0 : 2 * (m * 2 ^ k) / n ≠ 0 := by have := Nat.two_pow_pos (M + 2); omega
    rw [nearest_st E M false _ n _ hnp hq0 (Or.inr ((Nat.le_log2 hq0).2 hq)), rfV_near h1 h2 false _ _ hA hB]
    refine ratNear_congr _ _ _ _ _ _ _ _ _ ?_ (isLog_frac _ n _ hnp hq0) (rlog_is _ _ hA hB)
    obtain ⟨p, hp⟩ : ∃ p : Int, p = i - j - (k : Int) - 1 := ⟨_, rfl⟩
    rw [← hp]
    have key : 2 * (m * 2 ^ k) * 2 ^ p.toNat * B * 2 ^ (i.toNat + (-j).toNat) = A * (n * 2 ^ (-p).toNat) * 2 ^ (i.toNat + (-j).toNat) := by
      calc 2 * (m * 2 ^ k) * 2 ^ p.toNat * B * 2 ^ (i.toNat + (-j).toNat) = (m * 2 ^ i.toNat) * (B * 2 ^ (-j).toNat) * 2 ^ (k + p.toNat + 1) := by rw [Nat.pow_add, Nat.pow_succ, Nat.pow_add]; ac_rfl
        _ = (A * 2 ^ (-i).toNat) * (n * 2 ^ j.toNat) * 2 ^ (k + p.toNat + 1) := by rw [e1, e2]
        _ = A * n * 2 ^ ((-i).toNat + j.toNat + (k + p.toNat + 1)) := by rw [Nat.pow_add 2 ((-i).toNat + j.toNat), Nat.pow_add 2 (-i).toNat]; ac_rfl
        _ = A * n * 2 ^ ((-p).toNat + (i.toNat + (-j).toNat)) := by congr 2; omega
        _ = _ := by rw [Nat.pow_add]; ac_rfl
    exact Nat.eq_of_mul_eq_mul_right (Nat.two_pow_pos _) key
end Go.Proofs.Ygcoaf
