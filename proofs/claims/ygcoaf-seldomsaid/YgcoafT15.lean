/-
  THE PLAIN LAW OF slow: the 64 leading bits with their sticky bit round as the fraction itself.
-/
import Derived.Test.YgcoafS4
namespace Go.Proofs.Ygcoaf
open Go.RowKit Go.Proofs.Ygcoaf.M

/-- what is left is nothing, in whatever terms the fraction is said -/
theorem mod_eq_zero_frac {N D N' D' : Nat} (hD : 0 < D) (hD' : 0 < D') (h : N * D' = N' * D) : N % D = 0 ↔ N' % D' = 0 := by
  have aux : ∀ {N D N' D' : Nat}, 0 < D → 0 < D' → N * D' = N' * D → N % D = 0 → N' % D' = 0 := by
    intro N D N' D' hD hD' h hz
    obtain ⟨k, hk⟩ := Nat.dvd_of_mod_eq_zero hz
    have : N' = D' * k := by
      apply Nat.eq_of_mul_eq_mul_right hD
      rw [← h, hk]; ac_rfl
    rw [this]; exact Nat.mul_mod_right _ _
  exact ⟨aux hD hD' h, aux hD' hD h.symm⟩

/-- the sticky bit tells whether anything is left -/
theorem st_mod (n d k : Nat) (hd : 0 < d) (hk : 1 ≤ k) : st n d % 2 ^ k = 0 ↔ n % (d * 2 ^ k) = 0 := by
  obtain ⟨j, rfl⟩ : ∃ j, k = j + 1 := ⟨k - 1, by omega⟩
  have hm := mod_mul' n d (2 ^ (j + 1))
  have hp : 2 ^ (j + 1) = 2 * 2 ^ j := by rw [Nat.pow_succ, Nat.mul_comm]
  by_cases h0 : n % d = 0
  · rw [st_even n d h0, hm, h0, Nat.zero_add, Nat.mul_eq_zero]; omega
  · have h1 : st n d % 2 ^ (j + 1) ≠ 0 := by
      rw [st_odd n d h0, hp]
      have h2 : (2 * (n / d / 2) + 1) % (2 * 2 ^ j) = (2 * (n / d / 2) + 1) % 2 + 2 * ((2 * (n / d / 2) + 1) / 2 % 2 ^ j) := Nat.mod_mul
      omega
    have h2 : n % (d * 2 ^ (j + 1)) ≠ 0 := by rw [hm]; omega
    exact ⟨fun h => absurd h h1, fun h => absurd h h2⟩

/-- A/B is n/d times 2^p -/
structure Sm (A B n d : Nat) (p : Int) : Prop where
  hB : 0 < B
  hd : 0 < d
  eq : A * (d * 2 ^ (-p).toNat) = n * 2 ^ p.toNat * B

theorem Sm.cross {A B n d : Nat} {p : Int} (s : Sm A B n d p) (M : Nat) (e : Int) (k : Nat) (hk : (k : Int) = e - p - M) :
    A * 2 ^ ((M : Int) - e).toNat * (d * 2 ^ k) = n * (B * 2 ^ (-((M : Int) - e)).toNat) := by
  have h := s.eq
  have h1 : A * 2 ^ ((M : Int) - e).toNat * (d * 2 ^ k) * 2 ^ (-p).toNat = n * (B * 2 ^ (-((M : Int) - e)).toNat) * 2 ^ (-p).toNat := by
    calc A * 2 ^ ((M : Int) - e).toNat * (d * 2 ^ k) * 2 ^ (-p).toNat = A * (d * 2 ^ (-p).toNat) * 2 ^ (((M : Int) - e).toNat + k) := by rw [Nat.pow_add]; ac_rfl
      _ = n * 2 ^ p.toNat * B * 2 ^ (((M : Int) - e).toNat + k) := by rw [h]
      _ = n * B * 2 ^ (p.toNat + (((M : Int) - e).toNat + k)) := by rw [Nat.pow_add 2 p.toNat]; ac_rfl
      _ = n * B * 2 ^ ((-((M : Int) - e)).toNat + (-p).toNat) := by congr 2; omega
      _ = _ := by rw [Nat.pow_add]; ac_rfl
  exact Nat.eq_of_mul_eq_mul_right (Nat.two_pow_pos _) h1

theorem Sm.rnd {A B n d : Nat} {p : Int} (s : Sm A B n d p) (mode : Nat) (neg : Bool) (M : Nat) (e : Int) (k : Nat) (hk : (k : Int) = e - p - M) (h2 : 2 ≤ k) :
    rnd mode neg (A * 2 ^ ((M : Int) - e).toNat) (B * 2 ^ (-((M : Int) - e)).toNat) = Go.Proofs.Ygcoaf.M.rnd mode neg (st n d) (2 ^ k) := by
  rw [rnd_st _ _ _ _ _ s.hd h2]
  exact rnd_eq _ _ _ _ _ _ (Nat.mul_pos s.hB (Nat.two_pow_pos _)) (Nat.mul_pos s.hd (Nat.two_pow_pos _)) (s.cross M e k hk)

theorem Sm.left {A B n d : Nat} {p : Int} (s : Sm A B n d p) (M : Nat) (e : Int) (k : Nat) (hk : (k : Int) = e - p - M) (h2 : 1 ≤ k) :
    A * 2 ^ ((M : Int) - e).toNat % (B * 2 ^ (-((M : Int) - e)).toNat) = 0 ↔ st n d % 2 ^ k = 0 := by
  rw [st_mod _ _ _ s.hd h2]
  exact mod_eq_zero_frac (Nat.mul_pos s.hB (Nat.two_pow_pos _)) (Nat.mul_pos s.hd (Nat.two_pow_pos _)) (s.cross M e k hk)

theorem Sm.log {A B n d : Nat} {p : Int} (s : Sm A B n d p) (hA : A ≠ 0) (h1 : 9223372036854775808 ≤ n / d) (h2 : n / d < 18446744073709551616) : rlog A B = p + 63 := by
  have hl := isLog_frac n d p s.hd (by omega)
  have h63 : (n / d).log2 = 63 := by
    rw [Nat.log2_eq_iff (by omega)]; exact ⟨h1, h2⟩
  rw [h63] at hl
  exact IsLog.unique s.eq (rlog_is A B hA (by have := s.hB; omega)) hl

/-! ### round's answer -/
def sE (E : Nat) (p : Int) : Int := max (p + 63) (lo E)
def sK (E M : Nat) (p : Int) : Nat := (sE E p - p - M).toNat
def sX (E M mode : Nat) (neg : Bool) (sig : Nat) (p : Int) : Nat := (sE E p - lo E).toNat * 2 ^ M + rnd mode neg sig (2 ^ sK E M p)
def sTiny (E M mode : Nat) (neg : Bool) (sig : Nat) (p : Int) : Bool := if p + 63 = lo E - 1 then decide (rnd mode neg sig (2 ^ (63 - M)) / 2 ^ (M + 1) = 0) else decide (p + 63 < lo E)
def slV (E M mode : Nat) (neg : Bool) (sig : Nat) (p : Int) : Nat := if sig = 0 then sgn E M neg else packV E M mode neg (sX E M mode neg sig p)
def slF (E M mode : Nat) (neg : Bool) (sig : Nat) (p : Int) : Nat := if sig = 0 then 0 else packF E M (decide (sig % 2 ^ sK E M p ≠ 0)) (sTiny E M mode neg sig p) (sX E M mode neg sig p)

theorem bl_pow_iff (M f : Nat) (h1 : 2 ^ M ≤ f) : bl f = M + 1 ↔ f / 2 ^ (M + 1) = 0 := by
  have hf : f ≠ 0 := by have := Nat.two_pow_pos M; omega
  constructor
  · intro h
    have := bl_hi f
    rw [h] at this
    exact Nat.div_eq_of_lt this
  · intro h
    have h3 : f < 2 ^ (M + 1) := by
      rcases Nat.lt_or_ge f (2 ^ (M + 1)) with g | g
      · exact g
      · have := Nat.div_pos g (Nat.two_pow_pos _); omega
    have h4 := bl_le f (M + 1) h3
    have h5 := bl_hi f
    rcases Nat.lt_or_ge (bl f) (M + 1) with g | g
    · have : 2 ^ bl f ≤ 2 ^ M := two_pow_le (by omega)
      omega
    · omega

theorem big_inf {E M mode : Nat} (h1 : 2 ≤ E) (h4 : M ≤ 52) (neg : Bool) {sig : Nat} {p : Int} (hs : 9223372036854775808 ≤ sig) (hp : biasN E < p + 63) : infR E M ≤ sX E M mode neg sig p := by
  have hbt := bias_two h1
  have hlo : lo E = 1 - biasN E := rfl
  have hbp : 1 ≤ biasN E := by have : 2 ^ 2 ≤ 2 ^ E := two_pow_le h1; have h9 := cast_two_pow E; omega
  have he : sE E p = p + 63 := by unfold sE; omega
  have hk : sK E M p = 63 - M := by unfold sK; rw [he]; omega
  unfold sX
  rw [hk, he]
  have hr : 2 ^ M ≤ rnd mode neg sig (2 ^ (63 - M)) := by
    refine Nat.le_trans ?_ (Nat.le_add_right _ _)
    rw [Nat.le_div_iff_mul_le (Nat.two_pow_pos _), ← Nat.pow_add, show M + (63 - M) = 63 by omega]
    exact hs
  have hc := cast_two_pow E
  have hm : (2 ^ E - 2) * 2 ^ M ≤ (p + 63 - lo E).toNat * 2 ^ M := Nat.mul_le_mul_right _ (by omega)
  have hi : infR E M = (2 ^ E - 2) * 2 ^ M + 2 ^ M := by
    unfold infR
    rw [← Nat.succ_mul]; congr 1
    have : 2 ^ 2 ≤ 2 ^ E := two_pow_le h1
    omega
  omega

/-- THE LAW: the fraction rounds as its leading bits -/
theorem slow_law {E M : Nat} (h1 : 2 ≤ E) (h4 : M ≤ 52) (mode : Nat) (neg : Bool) {A B n d : Nat} {p : Int} (s : Sm A B n d p) (hA : A ≠ 0) (hq1 : 9223372036854775808 ≤ n / d) (hq2 : n / d < 18446744073709551616) :
    rfV E M mode neg A B = slV E M mode neg (st n d) p ∧ rfF E M mode neg A B = slF E M mode neg (st n d) p := by
  have hl := s.log hA hq1 hq2
  have hst : 9223372036854775808 ≤ st n d := by
    have := st_half n d; omega
  have he : eAt E A B = sE E p := by unfold eAt sE; rw [hl]
  have hk : ((sK E M p : Nat) : Int) = sE E p - p - M := by unfold sK sE; omega
  have hk2 : 2 ≤ sK E M p := by unfold sK sE; omega
  have hx : rungOf M (lo E) mode neg A B (sE E p) = sX E M mode neg (st n d) p := by
    unfold rungOf sX
    have := s.rnd mode neg M (sE E p) _ hk hk2
    rw [show -((M : Int) - sE E p) = sE E p - M by omega] at this
    rw [this]
  have hsm : smAt E M A B = decide (st n d % 2 ^ sK E M p ≠ 0) := by
    unfold smAt
    rw [he, decide_eq_decide]
    exact not_congr (s.left M (sE E p) _ hk (by omega))
  have hti : tinyAt E M mode neg A B = sTiny E M mode neg (st n d) p := by
    unfold tinyAt sTiny
    rw [hl]
    by_cases c : p + 63 = lo E - 1
    · rw [if_pos c, if_pos c, s.rnd mode neg M (p + 63) (63 - M) (by omega) (by omega), decide_eq_decide]
      apply bl_pow_iff
      refine Nat.le_trans ?_ (Nat.le_add_right _ _)
      rw [Nat.le_div_iff_mul_le (Nat.two_pow_pos _), ← Nat.pow_add, show M + (63 - M) = 63 by omega]
      exact hst
    · rw [if_neg c, if_neg c]
  unfold rfV rfF slV slF
  rw [if_neg hA, if_neg hA, if_neg (c := st n d = 0) (by omega), if_neg (c := st n d = 0) (by omega), he, hx, hsm, hti]
  by_cases c : biasN E < sE E p
  · have hbp : 1 ≤ biasN E := by have : 2 ^ 2 ≤ 2 ^ E := two_pow_le h1; have h9 := cast_two_pow E; have h8 := bias_two h1; omega
    have hlo : lo E = 1 - biasN E := rfl
    have hpc : biasN E < p + 63 := by unfold sE at c; omega
    have hi := big_inf (mode := mode) h1 h4 neg hst hpc
    rw [if_pos c, if_pos c]
    unfold packV packF
    rw [if_pos hi, if_pos hi]
    exact ⟨rfl, rfl⟩
  · rw [if_neg c, if_neg c]
    exact ⟨rfl, rfl⟩

/-- far above: every mode overflows -/
theorem slow_high {E M : Nat} (h1 : 2 ≤ E) (h2 : E ≤ 11) (h4 : M ≤ 52) (mode : Nat) (neg : Bool) {A B : Nat} (hA : A ≠ 0) (hB : B ≠ 0) {K : Nat} (hK : 1024 ≤ K) (h : B * 2 ^ K ≤ A) :
    rfV E M mode neg A B = slV E M mode neg 9223372036854775808 2000 ∧ rfF E M mode neg A B = slF E M mode neg 9223372036854775808 2000 := by
  have hbd := biasN_bd h1 h2
  have hi := big_inf (mode := mode) (p := 2000) h1 h4 neg (Nat.le_refl _) (by omega)
  have hr : 1024 ≤ rlog A B := by
    obtain ⟨_, _, g3⟩ := rlog_is A B hA hB
    rcases Int.lt_or_le (rlog A B) 1024 with c | c
    · exfalso
      have g4 : A * 1 ≤ A * 2 ^ (-(rlog A B + 1)).toNat := Nat.mul_le_mul_left _ (Nat.two_pow_pos _)
      have g5 : B * 2 ^ (rlog A B + 1).toNat ≤ B * 2 ^ K := Nat.mul_le_mul_left _ (two_pow_le (by omega))
      omega
    · exact c
  have ho : biasN E < eAt E A B := by unfold eAt; omega
  unfold rfV rfF slV slF
  rw [if_neg hA, if_neg hA, if_neg (c := 9223372036854775808 = 0) (by decide), if_neg (c := 9223372036854775808 = 0) (by decide), if_pos ho, if_pos ho]
  unfold packV packF
  rw [if_pos hi, if_pos hi]
  exact ⟨rfl, rfl⟩

/-- a fraction below one half -/
theorem rnd_small (mode : Nat) (neg : Bool) {N D N' D' : Nat} (h1 : N ≠ 0) (h2 : 2 * N < D) (h1' : N' ≠ 0) (h2' : 2 * N' < D') : rnd mode neg N D = rnd mode neg N' D' := by
  have g1 : N % D = N := Nat.mod_eq_of_lt (by omega)
  have g2 : N' % D' = N' := Nat.mod_eq_of_lt (by omega)
  have g3 : N / D = 0 := Nat.div_eq_of_lt (by omega)
  have g4 : N' / D' = 0 := Nat.div_eq_of_lt (by omega)
  unfold rnd ups
  rw [g1, g2, g3, g4]
  have e1 : decide (D ≤ 2 * N) = false := by simp; omega
  have e2 : decide (D' ≤ 2 * N') = false := by simp; omega
  have e3 : decide (D < 2 * N) = false := by simp; omega
  have e4 : decide (D' < 2 * N') = false := by simp; omega
  have e5 : (D == 2 * N) = false := by simp; omega
  have e6 : (D' == 2 * N') = false := by simp; omega
  have e7 : (N == 0) = false := by simp; omega
  have e8 : (N' == 0) = false := by simp; omega
  rw [e1, e2, e3, e4, e5, e6, e7, e8]

/-- far below: less than half the least -/
theorem slow_low {E M : Nat} (h1 : 2 ≤ E) (h2 : E ≤ 11) (h3 : 2 ≤ M) (h4 : M ≤ 52) (mode : Nat) (neg : Bool) {A B : Nat} (hA : A ≠ 0) (hB : B ≠ 0) {K : Nat} (hK : 1100 ≤ K) (h : A * 2 ^ K < B) :
    rfV E M mode neg A B = slV E M mode neg 9223372036854775808 (-2000) ∧ rfF E M mode neg A B = slF E M mode neg 9223372036854775808 (-2000) := by
  have hbd := biasN_bd h1 h2
  have hlo : lo E = 1 - biasN E := rfl
  have hr : rlog A B < -1030 := by
    obtain ⟨_, g2, _⟩ := rlog_is A B hA hB
    rcases Int.lt_or_le (rlog A B) (-1030) with c | c
    · exact c
    · exfalso
      have g4 : B * 1 ≤ B * 2 ^ (rlog A B).toNat := Nat.mul_le_mul_left _ (Nat.two_pow_pos _)
      have g5 : A * 2 ^ (-(rlog A B)).toNat ≤ A * 2 ^ K := Nat.mul_le_mul_left _ (two_pow_le (by omega))
      omega
  have he : eAt E A B = lo E := by unfold eAt; omega
  have he' : sE E (-2000) = lo E := by unfold sE; omega
  have hk : ((sK E M (-2000) : Nat) : Int) = lo E + 2000 - M := by unfold sK; rw [he']; omega
  have hk2 : 2 ^ 100 ≤ 2 ^ sK E M (-2000) := two_pow_le (by omega)
  have h900 : 2 * 9223372036854775808 < 2 ^ 100 := by decide
  have hz : (-((M : Int) - lo E)).toNat = 0 := by omega
  have hN : A * 2 ^ ((M : Int) - lo E).toNat ≠ 0 := by have := Nat.mul_pos (Nat.pos_of_ne_zero hA) (Nat.two_pow_pos ((M : Int) - lo E).toNat); omega
  have hND : 2 * (A * 2 ^ ((M : Int) - lo E).toNat) < B * 2 ^ (-((M : Int) - lo E)).toNat := by
    rw [hz, Nat.pow_zero, Nat.mul_one]
    refine Nat.lt_of_le_of_lt ?_ h
    calc 2 * (A * 2 ^ ((M : Int) - lo E).toNat) = A * 2 ^ (((M : Int) - lo E).toNat + 1) := by rw [Nat.pow_succ]; ac_rfl
      _ ≤ _ := Nat.mul_le_mul_left _ (two_pow_le (by omega))
  have hrd := rnd_small mode neg hN hND (N' := 9223372036854775808) (D' := 2 ^ sK E M (-2000)) (by decide) (by omega)
  have hx : rungOf M (lo E) mode neg A B (lo E) = sX E M mode neg 9223372036854775808 (-2000) := by
    unfold rungOf sX
    rw [he', show lo E - (M : Int) = -((M : Int) - lo E) by omega, hrd]
  have hsm : smAt E M A B = decide (9223372036854775808 % 2 ^ sK E M (-2000) ≠ 0) := by
    unfold smAt
    rw [he, Nat.mod_eq_of_lt (by omega), Nat.mod_eq_of_lt (by omega), decide_eq_decide]
    exact ⟨fun _ => by decide, fun _ => hN⟩
  have hti : tinyAt E M mode neg A B = sTiny E M mode neg 9223372036854775808 (-2000) := by
    unfold tinyAt sTiny
    rw [if_neg (by omega), if_neg (by omega), decide_eq_decide]
    exact ⟨fun _ => by omega, fun _ => by omega⟩
  unfold rfV rfF slV slF
  rw [if_neg hA, if_neg hA, if_neg (c := 9223372036854775808 = 0) (by decide), if_neg (c := 9223372036854775808 = 0) (by decide), if_neg (c := biasN E < eAt E A B) (by omega), if_neg (c := biasN E < eAt E A B) (by omega), he, hx, hsm, hti]
  exact ⟨rfl, rfl⟩
end Go.Proofs.Ygcoaf
