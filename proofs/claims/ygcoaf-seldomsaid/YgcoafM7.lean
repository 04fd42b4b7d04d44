/-
  THE PLAIN MATHEMATICS OF CONVERSIONS: the parts of a pattern and the model's reading of it are one number; what overflows a narrower format; whole parts.
-/
import Derived.Test.YgcoafM6
namespace Go.Proofs.Ygcoaf
open Go.Proofs.Ygcoaf.M

/-- the model's nearest hangs on the value alone -/
theorem nearest_congr (f : Ieee.Format) (neg : Bool) (m m' : Nat) (i i' : Int) (h0 : m ≠ 0) (h0' : m' ≠ 0)
    (h : m * 2 ^ i.toNat * 2 ^ (-i').toNat = m' * 2 ^ i'.toNat * 2 ^ (-i).toNat) : f.nearest neg m i = f.nearest neg m' i' := by
  rw [nearest_eq f neg m i h0, nearest_eq f neg m' i' h0']
  have e := IsLog.unique h (isLog_mag m i h0) (isLog_mag m' i' h0')
  rw [e, rungOf_eq _ _ _ _ _ _ _ _ _ (Nat.two_pow_pos _) (Nat.two_pow_pos _) h]

theorem least_eq (E M : Nat) : (Ieee.Format.mk E M).leastPlace = lo E - M := by
  unfold Ieee.Format.leastPlace lo biasN; simp only; omega

theorem rung_split (E M x : Nat) : x % 2 ^ (E + M) = eF E M x * 2 ^ M + mF M x := by
  have h3 := Nat.div_add_mod (x % 2 ^ (E + M)) (2 ^ M)
  rw [rung_div, rung_mod] at h3
  rw [← h3, Nat.mul_comm]

/-- a finite pattern that is not zero: the model reads a number, and the parts are that number -/
theorem read_parts (E M x : Nat) (hE : 2 ≤ E) (h : x % 2 ^ (E + M) < infR E M) :
    ∃ m i, (Ieee.Format.mk E M).read x = .number (uNeg E M x) m i ∧ (m = 0 ↔ uMan E M x = 0) ∧
      m * 2 ^ i.toNat * 2 ^ (-uExp E M x).toNat = uMan E M x * 2 ^ (uExp E M x).toNat * 2 ^ (-i).toNat ∧ (m = uMan E M x ∧ i = uExp E M x ∨ m < 2 ^ M ∧ i = lo E - M ∧ (m = 0 ∨ uExp E M x < lo E - M)) := by
  have hc4 : uCls E M x ≠ 4 := by rw [Ne, cls_nan]; omega
  have hc3 : uCls E M x ≠ 3 := by rw [Ne, cls_inf]; omega
  have hneg : uNeg E M x = sF E M x := by unfold uNeg; rw [if_neg hc4]
  have hsp := rung_split E M x
  have hm := mF_lt M x
  have he := eF_lt E M x
  have hp := Nat.two_pow_pos M
  have h4 : 2 ^ 2 ≤ 2 ^ E := two_pow_le hE
  have hetop : eF E M x ≠ 2 ^ E - 1 := by
    intro c
    unfold uCls at hc3 hc4
    rw [if_pos c] at hc3 hc4
    by_cases z : mF M x = 0
    · rw [if_pos z] at hc3; exact hc3 rfl
    · rw [if_neg z] at hc4; exact hc4 rfl
  rw [read_eq, least_eq, hneg]
  by_cases e0 : eF E M x = 0
  · have hlt : x % 2 ^ (E + M) < 2 ^ M := by rw [hsp, e0]; omega
    have hr : x % 2 ^ (E + M) = mF M x := by rw [hsp, e0]; omega
    rw [if_pos hlt, hr]
    refine ⟨_, _, rfl, ?_⟩
    by_cases m0 : mF M x = 0
    · have c0 : uCls E M x = 0 := by unfold uCls; rw [if_neg hetop, if_pos e0, if_pos m0]
      have u0 : uMan E M x = 0 := by unfold uMan; rw [c0]; rfl
      rw [u0, m0]
      simp
      exact Or.inr hp
    · have c1 : uCls E M x = 1 := by unfold uCls; rw [if_neg hetop, if_pos e0, if_neg m0]
      have hl := log2_lt_of M (mF M x) m0 hm
      have um : uMan E M x = mF M x * 2 ^ (M - (mF M x).log2) := by unfold uMan; rw [if_pos c1]
      have ue : uExp E M x = lo E - M - (M - (mF M x).log2 : Nat) := by unfold uExp lo; rw [if_pos c1]
      refine ⟨?_, ?_, Or.inr ⟨hm, rfl, Or.inr ?_⟩⟩
      · rw [um, Nat.mul_eq_zero]; have := Nat.two_pow_pos (M - (mF M x).log2); omega
      · rw [um, ue]
        generalize (lo E - (M : Int)) = L
        generalize M - (mF M x).log2 = k
        calc mF M x * 2 ^ L.toNat * 2 ^ (-(L - (k : Int))).toNat = mF M x * 2 ^ (L.toNat + (-(L - (k : Int))).toNat) := by rw [Nat.pow_add]; ac_rfl
          _ = mF M x * 2 ^ (k + (L - (k : Int)).toNat + (-L).toNat) := by congr 2; omega
          _ = _ := by rw [Nat.pow_add, Nat.pow_add]; ac_rfl
      · rw [ue]; omega
  · have hge : ¬ x % 2 ^ (E + M) < 2 ^ M := by
      rw [hsp]
      have : 1 * 2 ^ M ≤ eF E M x * 2 ^ M := Nat.mul_le_mul_right _ (by omega)
      omega
    have c2 : uCls E M x = 2 := by unfold uCls; rw [if_neg hetop, if_neg e0]
    have um : uMan E M x = mF M x + 2 ^ M := by unfold uMan; rw [c2]; rfl
    have ue : uExp E M x = lo E - M + ((eF E M x - 1 : Nat) : Int) := by
      unfold uExp lo; rw [c2, if_neg (by decide), if_pos rfl]; omega
    rw [if_neg hge, if_pos h, rung_mod, rung_div]
    refine ⟨_, _, rfl, ?_, ?_, Or.inl ⟨?_, ue.symm⟩⟩
    · rw [um]; omega
    · rw [um, ue, Nat.add_comm (2 ^ M)]
    · rw [um, Nat.add_comm]

/-- so both round alike, in whatever format -/
theorem nearest_parts (g : Ieee.Format) (E M x : Nat) (m : Nat) (i : Int) (h1 : m = 0 ↔ uMan E M x = 0) (h2 : m * 2 ^ i.toNat * 2 ^ (-uExp E M x).toNat = uMan E M x * 2 ^ (uExp E M x).toNat * 2 ^ (-i).toNat) (s : Bool) :
    g.nearest s m i = g.nearest s (uMan E M x) (uExp E M x) := by
  by_cases h0 : m = 0
  · rw [h1.1 h0, h0]
    unfold Ieee.Format.nearest
    rw [if_pos rfl, if_pos rfl]
  · exact nearest_congr g s _ _ _ _ h0 (fun c => h0 (h1.2 c)) h2

theorem log2_man (M m : Nat) (h1 : 2 ^ M ≤ m) (h2 : m < 2 ^ (M + 1)) : m.log2 = M := by
  have hm : m ≠ 0 := by have := Nat.two_pow_pos M; omega
  have a := (Nat.le_log2 hm).2 h1
  have b := (Nat.log2_lt hm).2 h2
  omega

/-- a word that nearest gives is no NaN, and reads as infinity only past the end -/
theorem nearest_rung (E M : Nat) (neg : Bool) (m : Nat) (i : Int) : ∃ r, r ≤ infR E M ∧ (Ieee.Format.mk E M).nearest neg m i = r + sgn E M neg := by
  by_cases h : m = 0
  · subst h; exact ⟨0, Nat.zero_le _, by rw [nearest_zero]; simp⟩
  · rw [nearest_eq _ _ _ _ h, word_eq, infRung_eq]
    exact ⟨_, Nat.min_le_right _ _, rfl⟩

theorem word_mod (E M : Nat) (neg : Bool) (r : Nat) (h : r < 2 ^ (E + M)) : (r + sgn E M neg) % 2 ^ (E + M) = r := by
  unfold sgn; cases neg
  · simp; exact Nat.mod_eq_of_lt h
  · simp; exact Nat.mod_eq_of_lt h

/-- below the greatest binade nothing overflows -/
theorem rungK_small {E M : Nat} (h1 : 2 ≤ E) (hM : M ≤ 52) (neg : Bool) (exp : Int) (sig : Nat) (h0 : sig ≠ 0) (h : sig < 2 ^ 64) (ho : keptE E exp sig ≤ biasN E - 1) : rungK E M neg exp sig < infR E M := by
  have hb := bias_two h1
  have h4 : 2 ^ 2 ≤ 2 ^ E := two_pow_le h1
  obtain ⟨t1, t2⟩ := top_bd sig h0 h
  have hd := drop_ge E M exp sig
  have hq : sig * 2 ^ (63 - sig.log2) / 2 ^ dropK E M exp sig < 2 ^ (M + 1) := by
    rw [Nat.div_lt_iff_lt_mul (Nat.two_pow_pos _)]
    calc _ < 2 ^ 64 := t2
      _ = 2 ^ (M + 1) * 2 ^ (63 - M) := by rw [← Nat.pow_add]; congr 1; omega
      _ ≤ _ := Nat.mul_le_mul_left _ (two_pow_le hd)
  have hr := rnd_le 0 neg (sig * 2 ^ (63 - sig.log2)) (2 ^ dropK E M exp sig)
  have hx : (keptE E exp sig - lo E).toNat ≤ 2 ^ E - 4 := by
    have : (2 ^ E : Nat) = (2 * biasN E + 2).toNat := by rw [hb, ← cast_two_pow, Int.toNat_natCast]
    unfold lo; omega
  have hp := Nat.two_pow_pos M
  unfold rungK infR
  rw [Nat.pow_succ] at hq
  calc _ ≤ (2 ^ E - 4) * 2 ^ M + (2 ^ M * 2) := Nat.add_le_add (Nat.mul_le_mul_right _ hx) (by omega)
    _ < (2 ^ E - 4) * 2 ^ M + 3 * 2 ^ M := by omega
    _ = (2 ^ E - 1) * 2 ^ M := by rw [← Nat.add_mul]; congr 1; omega


/-- a significand of M+1 bits that is there, of class subnormal or normal -/
theorem man_cls (E M x : Nat) (_hE : 2 ≤ E) (h : x % 2 ^ (E + M) < infR E M) (h0 : uMan E M x ≠ 0) : uCls E M x = 1 ∨ uCls E M x = 2 := by
  have hc4 : uCls E M x ≠ 4 := by rw [Ne, cls_nan]; omega
  have hc3 : uCls E M x ≠ 3 := by rw [Ne, cls_inf]; omega
  by_cases h1 : uCls E M x = 1
  · exact Or.inl h1
  · by_cases h2 : uCls E M x = 2
    · exact Or.inr h2
    · exfalso; apply h0; unfold uMan; rw [if_neg h1, if_neg h2]

/-- what the exponent is: M below the binade's -/
theorem exp_eF (E M x : Nat) (hE : 2 ≤ E) (h : x % 2 ^ (E + M) < infR E M) (h0 : uMan E M x ≠ 0) :
    (eF E M x = 0 ∧ uExp E M x + M < lo E) ∨ (eF E M x ≠ 0 ∧ uExp E M x + M = (eF E M x : Int) - biasN E ∧ uMan E M x = 2 ^ M + mF M x) := by
  rcases man_cls E M x hE h h0 with c | c
  · left
    have he : eF E M x = 0 := by
      unfold uCls at c; split at c
      · split at c <;> omega
      · split at c
        · assumption
        · omega
    refine ⟨he, ?_⟩
    unfold uExp lo
    rw [if_pos c]
    have m0 : mF M x ≠ 0 := by
      intro z; apply h0; unfold uMan; rw [if_pos c, z]; simp
    have := log2_lt_of M (mF M x) m0 (mF_lt M x)
    omega
  · right
    have he : eF E M x ≠ 0 := by
      intro z
      unfold uCls at c; split at c
      · split at c <;> omega
      · split at c <;> omega
    refine ⟨he, ?_, ?_⟩
    · unfold uExp; rw [c, if_neg (by decide), if_pos rfl]; omega
    · unfold uMan; rw [c, if_neg (by decide), if_pos rfl, Nat.add_comm]

/-- NARROWING OVERFLOWS JUST FROM (2^25-1)*2^103 ON: pattern 0x47EFFFFFF0000000 -/
theorem narrow_over (x : Nat) (neg : Bool) (h : x % 2 ^ (11 + 52) < infR 11 52) (h0 : uMan 11 52 x ≠ 0) :
    (5183643170835005440 ≤ x % 2 ^ (11 + 52) → infR 8 23 ≤ rungK 8 23 neg (uExp 11 52 x) (uMan 11 52 x)) ∧
    (x % 2 ^ (11 + 52) < 5183643170835005440 → rungK 8 23 neg (uExp 11 52 x) (uMan 11 52 x) < infR 8 23) := by
  have hsp := rung_split 11 52 x
  have hm := mF_lt 52 x
  have hbd := uMan_bd 11 52 x (man_cls 11 52 x (by decide) h h0)
  have hlog := log2_man 52 (uMan 11 52 x) hbd.1 hbd.2
  have h64 : uMan 11 52 x < 2 ^ 64 := Nat.lt_of_lt_of_le hbd.2 (by decide)
  have b8 : biasN 8 = 127 := by decide
  have b11 : biasN 11 = 1023 := by decide
  have l8 : lo 8 = -126 := by decide
  have l11 : lo 11 = -1022 := by decide
  have key : eF 11 52 x = 1150 → rungK 8 23 neg (uExp 11 52 x) (uMan 11 52 x) = 253 * 2 ^ 23 + rnd 0 neg (uMan 11 52 x) (2 ^ 29) ∧ uMan 11 52 x = 2 ^ 52 + mF 52 x := by
    intro he
    rcases exp_eF 11 52 x (by decide) h h0 with ⟨z, _⟩ | ⟨_, hx, hu⟩
    · omega
    · refine ⟨?_, hu⟩
      have hk : keptE 8 (uExp 11 52 x) (uMan 11 52 x) = 127 := by unfold keptE; rw [hlog, l8]; omega
      have hd : dropK 8 23 (uExp 11 52 x) (uMan 11 52 x) = 40 := by unfold dropK; rw [hk, hlog]; omega
      unfold rungK
      rw [hk, hd, l8, hlog]
      rw [show (2 : Nat) ^ 40 = 2 ^ 29 * 2 ^ 11 by decide, show (63 - 52 : Nat) = 11 by decide, rnd_scale _ _ _ _ _ (by decide)]
      rfl
  have iR : infR 8 23 = 255 * 2 ^ 23 := by decide
  constructor
  · intro hT
    have he : 1150 ≤ eF 11 52 x := by omega
    by_cases e1 : eF 11 52 x = 1150
    · obtain ⟨k1, k2⟩ := key e1
      rw [k1, iR]
      have hmm : 4503599358935040 ≤ mF 52 x := by omega
      have hq : uMan 11 52 x / 2 ^ 29 = 2 ^ 24 - 1 := by omega
      have hr : 2 ^ 28 ≤ uMan 11 52 x % 2 ^ 29 := by omega
      have hup : ups 0 neg (uMan 11 52 x) (2 ^ 29) = true := by
        unfold ups
        simp only [hq]
        simp
        omega
      unfold rnd
      rw [hq, hup]
      decide
    · apply rungK_over (by decide) (by decide) neg _ _ h0 h64
      rcases exp_eF 11 52 x (by decide) h h0 with ⟨z, _⟩ | ⟨_, hx, _⟩
      · omega
      · unfold keptE; rw [hlog, b8, l8]; omega
  · intro hT
    have he : eF 11 52 x ≤ 1150 := by omega
    by_cases e1 : eF 11 52 x = 1150
    · obtain ⟨k1, k2⟩ := key e1
      rw [k1, iR]
      have hmm : mF 52 x < 4503599358935040 := by omega
      have : rnd 0 neg (uMan 11 52 x) (2 ^ 29) < 2 ^ 24 := by
        by_cases hq : uMan 11 52 x / 2 ^ 29 = 2 ^ 24 - 1
        · have hr : uMan 11 52 x % 2 ^ 29 < 2 ^ 28 := by omega
          have hup : ups 0 neg (uMan 11 52 x) (2 ^ 29) = false := by
            unfold ups
            simp
            omega
          unfold rnd
          rw [hq, hup]
          decide
        · have := rnd_le 0 neg (uMan 11 52 x) (2 ^ 29)
          omega
      omega
    · apply rungK_small (by decide) (by decide) neg _ _ h0 h64
      rcases exp_eF 11 52 x (by decide) h h0 with ⟨z, hx⟩ | ⟨_, hx, _⟩
      · unfold keptE; rw [hlog, b8, l8]; omega
      · unfold keptE; rw [hlog, b8, l8]; omega

/-- WIDENING NEVER OVERFLOWS -/
theorem widen_in (x : Nat) (neg : Bool) (h : x % 2 ^ (8 + 23) < infR 8 23) (h0 : uMan 8 23 x ≠ 0) : rungK 11 52 neg (uExp 8 23 x) (uMan 8 23 x) < infR 11 52 := by
  have hbd := uMan_bd 8 23 x (man_cls 8 23 x (by decide) h h0)
  have hlog := log2_man 23 (uMan 8 23 x) hbd.1 hbd.2
  have h64 : uMan 8 23 x < 2 ^ 64 := Nat.lt_of_lt_of_le hbd.2 (by decide)
  have b8 : biasN 8 = 127 := by decide
  have b11 : biasN 11 = 1023 := by decide
  have l8 : lo 8 = -126 := by decide
  have l11 : lo 11 = -1022 := by decide
  have he := eF_lt 8 23 x
  apply rungK_small (by decide) (by decide) neg _ _ h0 h64
  rcases exp_eF 8 23 x (by decide) h h0 with ⟨z, hx⟩ | ⟨_, hx, _⟩
  · unfold keptE; rw [hlog, b11, l11]; omega
  · unfold keptE; rw [hlog, b11, l11]; omega
end Go.Proofs.Ygcoaf
