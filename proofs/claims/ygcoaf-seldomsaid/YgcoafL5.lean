/-
  tab.entry, tab.Entry: the powers of ten to 128 bits.
-/
import Derived.Test.YgcoafL4
namespace Go.Proofs.Ygcoaf
open Go.RowKit Go.Proofs.Ygcoaf.M

/-- 5^|q| -/
def fiv (q : Int) : Nat := 5 ^ q.natAbs
def entX (q : Int) : Int := if q < 0 then q - ((127 + bl (fiv q) : Nat) : Int) else (bl (fiv q) : Int) - 128 + q
def entT (q : Int) : Nat := if q < 0 then 2 ^ (127 + bl (fiv q)) / fiv q else if (bl (fiv q) : Int) - 128 < 0 then fiv q * 2 ^ (128 - bl (fiv q)) else fiv q / 2 ^ (bl (fiv q) - 128)

theorem fiv_pos (q : Int) : fiv q ≠ 0 := by have := Nat.pow_pos (n := q.natAbs) (show 0 < 5 by decide); unfold fiv; omega
theorem fiv_odd (q : Int) : fiv q % 2 = 1 := by
  unfold fiv
  rw [Nat.pow_mod]
  show 1 ^ q.natAbs % 2 = 1
  rw [Nat.one_pow]
/-- a power of five beyond the first is no power of two -/
theorem fiv_ne (q : Int) (h : q ≠ 0) (j : Nat) : fiv q ≠ 2 ^ j := by
  intro e
  have ho := fiv_odd q
  cases j with
  | zero =>
    have h5 : 5 ^ 1 ≤ fiv q := Nat.pow_le_pow_right (by decide) (by omega)
    rw [e] at h5
    omega
  | succ i => rw [e, Nat.pow_succ] at ho; omega
theorem fiv_bl (q : Int) (h : q.natAbs ≤ 348) : bl (fiv q) ≤ 1045 := by
  have := bl_pow5 q.natAbs
  unfold fiv; omega

/-- what an entry is -/
structure Ent (q : Int) (T : Nat) (x : Int) : Prop where
  lo : 170141183460469231731687303715884105728 ≤ T
  hi : T < 340282366920938463463374607431768211456
  le : T * 2 ^ x.toNat * 10 ^ (-q).toNat ≤ 10 ^ q.toNat * 2 ^ (-x).toNat
  lt : 10 ^ q.toNat * 2 ^ (-x).toNat < (T + 1) * 2 ^ x.toNat * 10 ^ (-q).toNat
  ex : T * 2 ^ x.toNat * 10 ^ (-q).toNat = 10 ^ q.toNat * 2 ^ (-x).toNat ↔ 0 ≤ q ∧ q ≤ 55
  xb : -1600 ≤ x ∧ x ≤ 1300

theorem pw127 : (2 : Nat) ^ 127 = 170141183460469231731687303715884105728 := by decide
theorem pw128 : (2 : Nat) ^ 128 = 340282366920938463463374607431768211456 := by decide
theorem ten_pow (k : Nat) : 10 ^ k = 5 ^ k * 2 ^ k := by rw [← Nat.mul_pow]

/-- the powers of five within 128 bits -/
theorem five55 (k : Nat) : bl (5 ^ k) ≤ 128 ↔ k ≤ 55 := by
  constructor
  · intro h
    rcases Nat.lt_or_ge 55 k with c | c
    · exfalso
      have h1 : 5 ^ 56 ≤ 5 ^ k := Nat.pow_le_pow_right (by decide) c
      have h2 := bl_hi (5 ^ k)
      have h3 : 2 ^ bl (5 ^ k) ≤ 2 ^ 128 := two_pow_le h
      have h4 : 2 ^ 128 < 5 ^ 56 := by decide
      omega
    · exact c
  · intro h
    have h1 : 5 ^ k ≤ 5 ^ 55 := Nat.pow_le_pow_right (by decide) h
    exact bl_le _ _ (Nat.lt_of_le_of_lt h1 (by decide))

theorem ent_is (q : Int) (h1 : -348 ≤ q) (h2 : q ≤ 348) : Ent q (entT q) (entX q) := by
  have hp0 := fiv_pos q
  have hlo := bl_lo (fiv q) hp0
  have hhi := bl_hi (fiv q)
  have hb1 := bl_pos (fiv q) hp0
  have hb2 := fiv_bl q (by omega)
  have hpp := Nat.pos_of_ne_zero hp0
  by_cases c : q < 0
  · have hT : entT q = 2 ^ (127 + bl (fiv q)) / fiv q := by unfold entT; rw [if_pos c]
    have hX : entX q = q - ((127 + bl (fiv q) : Nat) : Int) := by unfold entX; rw [if_pos c]
    have hf : fiv q = 5 ^ (-q).toNat := by unfold fiv; congr 1; omega
    obtain ⟨j, hj⟩ : ∃ j, j = (-q).toNat := ⟨_, rfl⟩
    have hne := fiv_ne q (by omega) (bl (fiv q) - 1)
    have hstrict : 2 ^ (bl (fiv q) - 1) < fiv q := by omega
    obtain ⟨P, hP⟩ : ∃ P, P = fiv q := ⟨_, rfl⟩
    rw [← hP] at hT hX hlo hhi hb1 hb2 hpp hstrict
    obtain ⟨m, hm⟩ : ∃ m, m = bl P := ⟨_, rfl⟩
    rw [← hm] at hT hX hlo hhi hb1 hb2 hstrict
    have hx0 : (entX q).toNat = 0 := by rw [hX]; omega
    have hx1 : (-(entX q)).toNat = j + (127 + m) := by rw [hX]; omega
    have hq0 : q.toNat = 0 := by omega
    have e127 : 2 ^ (127 + m) = 2 ^ 127 * 2 ^ m := Nat.pow_add _ _ _
    have e128 : 2 ^ (127 + m) = 2 ^ 128 * 2 ^ (m - 1) := by rw [← Nat.pow_add]; congr 1; omega
    have g1 : 2 ^ 127 ≤ entT q := by
      rw [hT, Nat.le_div_iff_mul_le hpp, e127]; exact Nat.mul_le_mul_left _ (Nat.le_of_lt hhi)
    have g2 : entT q < 2 ^ 128 := by
      rw [hT, Nat.div_lt_iff_lt_mul hpp, e128]; exact Nat.mul_lt_mul_of_pos_left hstrict (Nat.two_pow_pos _)
    have hd := Nat.div_add_mod (2 ^ (127 + m)) P
    have hr := Nat.mod_lt (2 ^ (127 + m)) hpp
    rw [← hT] at hd
    have hten : 10 ^ j = P * 2 ^ j := by rw [ten_pow, hP, hf, ← hj]
    have k1 : entT q * 2 ^ (entX q).toNat * 10 ^ (-q).toNat = P * entT q * 2 ^ j := by rw [hx0, ← hj, hten, Nat.pow_zero, Nat.mul_one]; ac_rfl
    have k2 : 10 ^ q.toNat * 2 ^ (-(entX q)).toNat = 2 ^ (127 + m) * 2 ^ j := by rw [hq0, hx1, Nat.pow_zero, Nat.one_mul, Nat.pow_add, Nat.mul_comm]
    have k3 : (entT q + 1) * 2 ^ (entX q).toNat * 10 ^ (-q).toNat = (P * entT q + P) * 2 ^ j := by rw [hx0, ← hj, hten, Nat.pow_zero, Nat.mul_one, Nat.mul_comm P (entT q), ← Nat.succ_mul]; ac_rfl
    refine ⟨by rw [← pw127]; exact g1, by rw [← pw128]; exact g2, ?_, ?_, ?_, by rw [hX]; omega⟩
    · rw [k1, k2]; exact Nat.mul_le_mul_right _ (by omega)
    · rw [k2, k3]; exact Nat.mul_lt_mul_of_pos_right (by omega) (Nat.two_pow_pos _)
    · rw [k1, k2]
      constructor
      · intro h
        exfalso
        have h9 : P * entT q = 2 ^ (127 + m) := Nat.eq_of_mul_eq_mul_right (Nat.two_pow_pos _) h
        have hdv : P ∣ 2 ^ (127 + m) := ⟨_, h9.symm⟩
        have ho := fiv_odd q
        rw [← hP] at ho
        have hco : Nat.Coprime P 2 := by show Nat.gcd P 2 = 1; rw [Nat.gcd_comm, Nat.gcd_rec, ho]; rfl
        have h10 : P = 1 := Nat.Coprime.eq_one_of_dvd (Nat.Coprime.pow_right _ hco) hdv
        exact fiv_ne q (by omega) 0 (by rw [← hP, h10])
      · intro h; omega
  · have hf : fiv q = 5 ^ q.toNat := by unfold fiv; congr 1; omega
    have h55 := five55 q.toNat
    rw [← hf] at h55
    have hX : entX q = (bl (fiv q) : Int) - 128 + q := by unfold entX; rw [if_neg c]
    obtain ⟨j, hj⟩ : ∃ j, j = q.toNat := ⟨_, rfl⟩
    have hq0 : (-q).toNat = 0 := by omega
    obtain ⟨P, hP⟩ : ∃ P, P = fiv q := ⟨_, rfl⟩
    have hten : 10 ^ j = P * 2 ^ j := by rw [ten_pow, hP, hf, ← hj]
    have ho := fiv_odd q
    rw [← hP] at ho
    by_cases d : (bl (fiv q) : Int) - 128 < 0
    · have hT : entT q = fiv q * 2 ^ (128 - bl (fiv q)) := by unfold entT; rw [if_neg c, if_pos d]
      rw [← hP] at hT hX hlo hhi hb1 hb2 hpp d h55
      obtain ⟨m, hm⟩ : ∃ m, m = bl P := ⟨_, rfl⟩
      rw [← hm] at hT hX hlo hhi hb1 hb2 d h55
      have key : P * 2 ^ (128 - m) * 2 ^ (entX q).toNat = P * 2 ^ j * 2 ^ (-(entX q)).toNat := by
        rw [Nat.mul_assoc, Nat.mul_assoc, ← Nat.pow_add, ← Nat.pow_add]; congr 2; rw [hX]; omega
      have g1 : 2 ^ 127 ≤ entT q := by
        rw [hT]
        calc 2 ^ 127 = 2 ^ (m - 1) * 2 ^ (128 - m) := by rw [← Nat.pow_add]; congr 1; omega
          _ ≤ _ := Nat.mul_le_mul_right _ hlo
      have g2 : entT q < 2 ^ 128 := by
        rw [hT]
        calc P * 2 ^ (128 - m) < 2 ^ m * 2 ^ (128 - m) := Nat.mul_lt_mul_of_pos_right hhi (Nat.two_pow_pos _)
          _ = 2 ^ 128 := by rw [← Nat.pow_add]; congr 1; omega
      refine ⟨by rw [← pw127]; exact g1, by rw [← pw128]; exact g2, ?_, ?_, ?_, by rw [hX]; omega⟩
      · rw [hq0, Nat.pow_zero, Nat.mul_one, ← hj, hten, hT, key]; exact Nat.le_refl _
      · rw [hq0, Nat.pow_zero, Nat.mul_one, ← hj, hten, ← key, ← hT]
        exact Nat.mul_lt_mul_of_pos_right (Nat.lt_succ_self _) (Nat.two_pow_pos _)
      · rw [hq0, Nat.pow_zero, Nat.mul_one, ← hj, hten, hT, key]
        exact ⟨fun _ => by omega, fun _ => rfl⟩
    · have hT : entT q = fiv q / 2 ^ (bl (fiv q) - 128) := by unfold entT; rw [if_neg c, if_neg d]
      rw [← hP] at hT hX hlo hhi hb1 hb2 hpp d h55
      obtain ⟨m, hm⟩ : ∃ m, m = bl P := ⟨_, rfl⟩
      rw [← hm] at hT hX hlo hhi hb1 hb2 d h55
      obtain ⟨t, ht⟩ : ∃ t, t = m - 128 := ⟨_, rfl⟩
      rw [← ht] at hT
      have hx0 : (entX q).toNat = t + j := by rw [hX]; omega
      have hx1 : (-(entX q)).toNat = 0 := by rw [hX]; omega
      have g1 : 2 ^ 127 ≤ entT q := by
        rw [hT, Nat.le_div_iff_mul_le (Nat.two_pow_pos _), ← Nat.pow_add]
        exact Nat.le_trans (two_pow_le (by omega)) hlo
      have g2 : entT q < 2 ^ 128 := by
        rw [hT, Nat.div_lt_iff_lt_mul (Nat.two_pow_pos _), ← Nat.pow_add]
        exact Nat.lt_of_lt_of_le hhi (two_pow_le (by omega))
      have hd := Nat.div_add_mod P (2 ^ t)
      have hr := Nat.mod_lt P (Nat.two_pow_pos t)
      rw [← hT] at hd
      have k1 : entT q * 2 ^ (entX q).toNat * 10 ^ (-q).toNat = 2 ^ t * entT q * 2 ^ j := by rw [hx0, hq0, Nat.pow_zero, Nat.mul_one, Nat.pow_add]; ac_rfl
      have k2 : 10 ^ q.toNat * 2 ^ (-(entX q)).toNat = P * 2 ^ j := by rw [← hj, hten, hx1, Nat.pow_zero, Nat.mul_one]
      have k3 : (entT q + 1) * 2 ^ (entX q).toNat * 10 ^ (-q).toNat = (2 ^ t * entT q + 2 ^ t) * 2 ^ j := by
        rw [hx0, hq0, Nat.pow_zero, Nat.mul_one, Nat.pow_add, Nat.mul_comm (2 ^ t) (entT q), ← Nat.succ_mul]; ac_rfl
      refine ⟨by rw [← pw127]; exact g1, by rw [← pw128]; exact g2, ?_, ?_, ?_, by rw [hX]; omega⟩
      · rw [k1, k2]; exact Nat.mul_le_mul_right _ (by omega)
      · rw [k2, k3]; exact Nat.mul_lt_mul_of_pos_right (by omega) (Nat.two_pow_pos _)
      · rw [k1, k2]
        constructor
        · intro h
          have h9 : 2 ^ t * entT q = P := Nat.eq_of_mul_eq_mul_right (Nat.two_pow_pos _) h
          have ht0 : t = 0 := by
            cases t with
            | zero => rfl
            | succ i => rw [Nat.pow_succ] at h9; rw [← h9, Nat.mul_assoc, Nat.mul_left_comm] at ho; omega
          omega
        · intro h
          have : m ≤ 128 := h55.2 (by omega)
          have ht0 : t = 0 := by omega
          have : 2 ^ t * entT q = P := by rw [ht0] at hr hd ⊢; omega
          rw [this]
end Go.Proofs.Ygcoaf
