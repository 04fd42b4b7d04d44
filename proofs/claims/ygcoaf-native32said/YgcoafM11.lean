/-
  PLAIN LAWS, the eleventh: sticky sums.
-/
import Derived.Test.YgcoafM10
namespace Go.Proofs.Ygcoaf
open Go.Proofs.Ygcoaf.M

theorem st_add (A B d : Nat) (hd : 0 < d) (hA : A % 2 = 0) : st (A * d + B) d = A + st B d := by
  have q : (A * d + B) / d = A + B / d := by rw [Nat.mul_comm, Nat.mul_add_div hd]
  have r : (A * d + B) % d = B % d := by rw [Nat.mul_comm, Nat.mul_add_mod]
  by_cases h : B % d = 0
  · rw [st_even _ _ (r.trans h), st_even _ _ h, q]
  · rw [st_odd _ _ (by rw [r]; exact h), st_odd _ _ h, q]; omega

theorem st_sub (A B d : Nat) (hd : 0 < d) (hA : A % 2 = 0) (hle : B ≤ A * d) : st B d ≤ A ∧ st (A * d - B) d = A - st B d := by
  have e := Nat.div_add_mod B d
  have hlt := Nat.mod_lt B hd
  have hq : B / d ≤ A := Nat.div_le_of_le_mul (by rw [Nat.mul_comm]; exact hle)
  by_cases h : B % d = 0
  · have e2 : A * d - B = (A - B / d) * d := by rw [Nat.sub_mul, Nat.mul_comm (B / d)]; omega
    rw [st_even _ _ h, e2, st_even _ _ (Nat.mul_mod_left _ _), Nat.mul_div_cancel _ hd]
    exact ⟨hq, rfl⟩
  · have hq2 : B / d + 1 ≤ A := by
      apply Nat.lt_of_mul_lt_mul_right (a := d)
      rw [Nat.mul_comm (B / d)]
      omega
    have e2 : A * d - B = (A - B / d - 1) * d + (d - B % d) := by
      have e3 : A * d = (A - B / d - 1) * d + d * (B / d) + d := by
        have : A = (A - B / d - 1) + B / d + 1 := by omega
        calc A * d = ((A - B / d - 1) + B / d + 1) * d := by rw [← this]
          _ = _ := by rw [Nat.add_mul, Nat.add_mul, Nat.one_mul, Nat.mul_comm (B / d)]
      rw [e3]
      omega
    have hpos : 0 < B % d := Nat.pos_of_ne_zero h
    have hz : d - B % d < d := Nat.sub_lt hd hpos
    have q : (A * d - B) / d = A - B / d - 1 := by
      rw [e2, Nat.mul_comm, Nat.mul_add_div hd, Nat.div_eq_of_lt hz]; rfl
    have r : (A * d - B) % d = d - B % d := by
      rw [e2, Nat.mul_comm, Nat.mul_add_mod, Nat.mod_eq_of_lt hz]
    rw [st_odd _ _ h, st_odd _ _ (by rw [r]; exact Nat.sub_ne_zero_of_lt hlt), q]
    generalize B / d = Q at *
    clear e2 q r e hle
    omega

theorem st_small (B d : Nat) (h : B < d) : st B d = if B = 0 then 0 else 1 := by
  by_cases c : B = 0
  · rw [if_pos c, c, st_even _ _ (Nat.zero_mod _), Nat.zero_div]
  · rw [if_neg c, st_odd _ _ (by rw [Nat.mod_eq_of_lt h]; exact c), Nat.div_eq_of_lt h]

theorem st_cap (B g : Nat) (hB : B < 2 ^ 127) : st B (2 ^ min g 255) = st B (2 ^ g) := by
  by_cases h : g ≤ 255
  · rw [Nat.min_eq_left h]
  · have a : 2 ^ 127 ≤ 2 ^ min g 255 := two_pow_le (by omega)
    have b : 2 ^ 127 ≤ 2 ^ g := two_pow_le (by omega)
    rw [st_small _ _ (Nat.lt_of_lt_of_le hB a), st_small _ _ (Nat.lt_of_lt_of_le hB b)]

/-- a sticky quotient by a power of two rounds as the number itself -/
theorem nearest_stick (E M : Nat) (neg : Bool) (T g : Nat) (ea eb : Int) (hT : T / 2 ^ g ≠ 0) (he : eb + g = ea) (hk : T % 2 ^ g = 0 ∨ M + 2 ≤ (T / 2 ^ g).log2) :
    (Ieee.Format.mk E M).nearest neg (st T (2 ^ g)) ea = (Ieee.Format.mk E M).nearest neg T eb := by
  have hT0 : T ≠ 0 := fun h => hT (by rw [h, Nat.zero_div])
  rw [nearest_st E M neg T (2 ^ g) ea (Nat.two_pow_pos g) hT hk, nearest_rat E M neg T eb hT0]
  have a := isLog_frac T (2 ^ g) ea (Nat.two_pow_pos g) hT
  have b := isLog_mag T eb hT0
  refine ratNear_congr E M neg _ _ _ _ _ _ ?_ a b
  rw [Nat.mul_assoc, Nat.mul_assoc, ← Nat.pow_add, ← Nat.pow_add, ← Nat.pow_add]; congr 2; omega

/-- the leading 64 bits round as the whole -/
theorem nearest_lead (E M : Nat) (hM : M ≤ 52) (neg : Bool) (N : Nat) (exp : Int) (h0 : N ≠ 0) (hN : N < 340282366920938463463374607431768211456) :
    (Ieee.Format.mk E M).nearest neg (st (N * 2 ^ (127 - N.log2)) 18446744073709551616) (exp + 64 - (127 - N.log2 : Nat)) = (Ieee.Format.mk E M).nearest neg N exp := by
  have hl : N.log2 < 128 := (Nat.log2_lt h0).2 (by rw [p128]; exact hN)
  have a := Nat.log2_self_le h0
  have hbig : 2 ^ 127 ≤ N * 2 ^ (127 - N.log2) := by
    calc 2 ^ 127 = 2 ^ N.log2 * 2 ^ (127 - N.log2) := by rw [← Nat.pow_add, show N.log2 + (127 - N.log2) = 127 by omega]
      _ ≤ _ := Nat.mul_le_mul_right _ a
  have hq : 2 ^ 63 ≤ N * 2 ^ (127 - N.log2) / 2 ^ 64 := by
    rw [Nat.le_div_iff_mul_le (Nat.two_pow_pos _), ← Nat.pow_add]; exact hbig
  have hq0 : N * 2 ^ (127 - N.log2) / 2 ^ 64 ≠ 0 := by
    have := Nat.two_pow_pos 63
    intro h; rw [h] at hq; omega
  rw [← p64, nearest_stick E M neg (N * 2 ^ (127 - N.log2)) 64 _ (exp - (127 - N.log2 : Nat)) hq0 (by omega) (Or.inr (Nat.le_trans (by omega) ((Nat.le_log2 hq0).2 hq)))]
  exact nearest_up E M neg N _ _ _ (by omega)

/-- THE STICKY SUM ROUNDS AS THE SUM -/
theorem sum_sticky (E M : Nat) (hM : M ≤ 52) (na nb : Bool) (A B : Nat) (ea eb : Int) (he : eb ≤ ea) (hA1 : 2 ^ 126 ≤ A) (hB1 : B < 2 ^ 127) (hA2 : A % 2 = 0) (hB2 : B % 2 ^ 74 = 0) (hle : ea = eb → B ≤ A) :
    let s := st B (2 ^ min (ea - eb).toNat 255)
    s ≤ A ∧
    sumV E M na A ea nb B eb = if (if na = nb then A + s else A - s) = 0 then 0 else (Ieee.Format.mk E M).nearest na (if na = nb then A + s else A - s) ea := by
  intro s
  have hs : s = st B (2 ^ (ea - eb).toNat) := st_cap B _ hB1
  obtain ⟨g, hg⟩ : ∃ g, g = (ea - eb).toNat := ⟨_, rfl⟩
  rw [← hg] at hs
  have hpg := Nat.two_pow_pos g
  have hBA : B ≤ A * 2 ^ g := by
    by_cases c : g = 0
    · have := hle (by omega)
      rw [c, Nat.pow_zero, Nat.mul_one]; exact this
    · have h2 : 2 ^ 1 ≤ 2 ^ g := two_pow_le (by omega)
      have h3 : 2 ^ 127 ≤ A * 2 ^ g := by
        calc 2 ^ 127 = 2 ^ 126 * 2 ^ 1 := by rw [← Nat.pow_add]
          _ ≤ _ := Nat.mul_le_mul hA1 h2
      exact Nat.le_trans (Nat.le_of_lt hB1) h3
  have hadd := st_add A B (2 ^ g) hpg hA2
  obtain ⟨hsl, hsub⟩ := st_sub A B (2 ^ g) hpg hA2 hBA
  have hgap : B % 2 ^ g = 0 ∨ 74 < g := by
    by_cases c : g ≤ 74
    · left
      obtain ⟨q, hq⟩ := Nat.dvd_of_mod_eq_zero hB2
      rw [hq, show 74 = g + (74 - g) by omega, Nat.pow_add, Nat.mul_assoc]
      exact Nat.mul_mod_right _ _
    · right; omega
  have key : ∀ T : Nat, T ≠ 0 → (B % 2 ^ g = 0 → T % 2 ^ g = 0) → (74 < g → 2 ^ 125 * 2 ^ g ≤ T) → st T (2 ^ g) ≠ 0 ∧ (Ieee.Format.mk E M).nearest na (st T (2 ^ g)) ea = (Ieee.Format.mk E M).nearest na T eb := by
    intro T hT h1 h2
    have hq : T / 2 ^ g ≠ 0 ∧ (T % 2 ^ g = 0 ∨ M + 2 ≤ (T / 2 ^ g).log2) := by
      rcases hgap with c | c
      · have r := h1 c
        refine ⟨?_, Or.inl r⟩
        intro hz
        have := Nat.div_add_mod T (2 ^ g)
        rw [hz, r, Nat.mul_zero] at this
        omega
      · have h3 : 2 ^ 125 ≤ T / 2 ^ g := by rw [Nat.le_div_iff_mul_le hpg]; exact h2 c
        have hz : T / 2 ^ g ≠ 0 := by
          have := Nat.two_pow_pos 125
          intro h; rw [h] at h3; omega
        exact ⟨hz, Or.inr (Nat.le_trans (by omega) ((Nat.le_log2 hz).2 h3))⟩
    exact ⟨(st_log T _ hq.1).1, nearest_stick E M na T g ea eb hq.1 (by omega) hq.2⟩
  have hAbig : 74 < g → 2 ^ 125 * 2 ^ g + B ≤ A * 2 ^ g := by
    intro c
    have h1 : 2 ^ 126 * 2 ^ g ≤ A * 2 ^ g := Nat.mul_le_mul_right _ hA1
    have h2 : 2 ^ 126 * 2 ^ g = 2 ^ 125 * 2 ^ g + 2 ^ 125 * 2 ^ g := by
      rw [← Nat.mul_two, Nat.mul_right_comm, ← Nat.pow_succ]
    have h3 : 2 ^ 127 ≤ 2 ^ 125 * 2 ^ g := by rw [← Nat.pow_add]; exact two_pow_le (by omega)
    omega
  refine ⟨by rw [hs]; exact hsl, ?_⟩
  rw [sumV_ge E M na A ea nb B eb he (by rw [← hg]; exact hBA), ← hg]
  by_cases c : na = nb
  · rw [if_pos c, if_pos c, hs, ← hadd]
    have hT : A * 2 ^ g + B ≠ 0 := by
      have : 0 < A * 2 ^ g := Nat.mul_pos (Nat.lt_of_lt_of_le (Nat.two_pow_pos 126) hA1) hpg
      omega
    obtain ⟨k1, k2⟩ := key _ hT (fun h => by rw [Nat.mul_comm, Nat.mul_add_mod]; exact h) (fun h => by have := hAbig h; omega)
    rw [if_neg hT, if_neg k1, k2]
  · rw [if_neg c, if_neg c, hs, ← hsub]
    by_cases hT : A * 2 ^ g - B = 0
    · rw [if_pos hT, hT, st_even _ _ (Nat.zero_mod _), Nat.zero_div, if_pos rfl]
    · obtain ⟨k1, k2⟩ := key _ hT (fun h => by
        obtain ⟨q, hq⟩ := Nat.dvd_of_mod_eq_zero h
        rw [hq, Nat.mul_comm A, ← Nat.mul_sub]; exact Nat.mul_mod_right _ _) (fun h => by have := hAbig h; omega)
      rw [if_neg hT, if_neg k1, k2]
end Go.Proofs.Ygcoaf
